/- internal/strconv: fmtEFG of the shortest digits, format g: without an exponent. (printed by gen_fff.py) -/
import Derived.Test.YticekgnmiaidjaaGreatDoorFfE
namespace Go.Proofs.YticekgnmiaidjaaGreatDoor
open Go.RowKit

theorem take_snocI {D : List Int} {j : Nat} {y : Int} (h : D[j]? = some y) : D.take (j + 1) = D.take j ++ [y] := by
  obtain ⟨hl, rfl⟩ := List.getElem?_eq_some_iff.1 h
  exact (List.take_append_getElem hl).symm
theorem rep_snoc (j : Nat) : List.replicate (j + 1) (48 : Int) = List.replicate j 48 ++ [48] := List.replicate_succ' ..
theorem imax_zero (r : Nat) : imax (r : Int) 0 = (r : Int) := by unfold imax; split <;> omega
theorem imax_zero' (r : Nat) : imax 0 (r : Int) = (r : Int) := by unfold imax; split <;> omega
theorem imax_neg (r : Nat) : imax 0 (-(r : Int)) = 0 := by unfold imax; split <;> omega
theorem imax_neg' (r : Nat) : imax (-(r : Int)) 0 = 0 := by unfold imax; split <;> omega
theorem imax_00 : imax 0 0 = 0 := by decide
theorem imin_r0 (r : Nat) : imin (r : Int) 0 = 0 := by unfold imin; split <;> omega
set_option maxRecDepth 100000 in
set_option maxHeartbeats 8000000 in
theorem efg_f1 (neg : Bool) (D : List Int) (dp : Int) (B g : Nat) (T : TypeId) (cs : Array Value) (v : Value) (W : World) (st : StB B W g T cs W v []) (hN : D.length ≤ 32) (hD : ∀ (j : Nat) (y : Int), D[j]? = some y → cs[j]? = some (.int .u8 y)) (h1 : 1 ≤ D.length) (q : Nat) (hq : dp = (q : Int)) (hq1 : 1 ≤ q) (hq6 : q ≤ 6) :
    Calls Tryz.prog 206 #[v, .bool neg, .slice (some ⟨g, 0, none⟩) 32 32, .int .i64 dp, .int .i64 (D.length : Int), .int .i64 (D.length : Int), .int .u8 103, .bool true] W fun e w' => ∃ v', e = .returned v' ∧ StB B W g T cs w' v' (fmtT neg D dp) := by
  obtain ⟨R, hR⟩ : ∃ R, fmtT neg D dp = R := ⟨_, rfl⟩
  rw [hR]
  unfold fmtT at hR
  obtain ⟨N, hNe⟩ : ∃ N, D.length = N := ⟨_, rfl⟩
  rw [hNe] at hN hR ⊢
  have HD := Lib.hid hD
  have HN := Lib.hid hNe
  have HS := Lib.hid st
  have hm1 := imin_self (N : Int)
  clear hD st
  subst hq
  have c1 : ¬ ((q : Int) - 1 < -4 ∨ 6 ≤ (q : Int) - 1) := by omega
  have c2 : (0 : Int) < (q : Int) := by omega
  rw [if_neg c1, if_pos c2, Int.toNat_natCast] at hR
  clear c1
  rw [hNe] at h1
  have HR := Lib.hid hR
  clear hR hNe
  have hb1 : decide ((q : Int) - 1 < -4) = false := decide_eq_false (by omega)
  have hb2 : decide (6 ≤ (q : Int) - 1) = false := decide_eq_false (by omega)
  have i1 := imax_00
  have hq0 : decide ((0 : Int) < (q : Int)) = true := decide_eq_true (by omega)
  have hq0b : decide (0 < q) = true := decide_eq_true (by omega)
  by_cases hjN : q < N
  · obtain ⟨r, hr⟩ : ∃ r : Nat, N = q + r := ⟨N - q, by omega⟩
    have hr1 : 1 ≤ r := by omega
    have hNq : (N : Int) - (q : Int) = (r : Int) := by omega
    have hM : imin (N : Int) (q : Int) = (q : Int) := by unfold imin; split <;> omega
    have hqN : decide ((q : Int) < (N : Int)) = true := decide_eq_true (by omega)
    have hr0 : decide ((0 : Int) < (r : Int)) = true := decide_eq_true (by omega)
    have hr0b : decide (0 < r) = true := decide_eq_true (by omega)
    have i2 := imax_zero r
    have i3 := imax_neg q
    have i4 := imin_r0 r
    have i5 := imax_zero' r
    have i6 := imin_self (r : Int)
    have hrep : q - N = 0 := by omega
    clear hr
    cases neg
    case true =>
      go_enter Tryz.func206, Tryz.ntmps206
      go_upto_region 54 with fail
      go_wp2_with (at_builtin; refine by_lit HS.out rfl (.tmp 179) (.tmp 180) rfl [45] _ rfl _ _ rfl rfl rfl (by simp only [List.length_append, List.length_cons, List.length_nil, List.length_take, List.length_drop, List.length_tail, List.length_replicate, HN.out]; omega) ?_)
      intro v1 w1 st1
      have HS1 := Lib.hid st1
      clear st1
      go_wp2_with fail
      go_loopw [0, 25, 191] (fun s _ i wr => ∃ j : Nat, j ≤ q ∧ i = .int .i64 j ∧ Hid (StB B W g T cs wr s ([45] ++ D.take j))) (fun _ _ i _ => q - (intOf i).toNat)
      case atStart => exact ⟨0, by omega, rfl, Lib.hid (HS1.out.cast (by simp))⟩
      case round =>
        clear HS HS1
        obtain ⟨j, hj, rfl, HJ⟩ := hrel
        by_cases hjm : j < q
        · have hji : (j : Int) < (q : Int) := by omega
          obtain ⟨y, hy⟩ : ∃ y, D[j]? = some y := ⟨D[j]'(by rw [HN.out]; omega), List.getElem?_eq_getElem _⟩
          have hcy := cell_dig HJ.out.buf HD.out hy
          have HY := Lib.hid hy
          clear hy
          go_upto_region 60 with fail
          go_wp2_with (at_builtin; refine by_lit HJ.out rfl (.tmp 195) (.tmp 197) rfl [y] _ rfl _ _ rfl rfl rfl (by simp only [List.length_append, List.length_cons, List.length_nil, List.length_take, HN.out]; omega) ?_)
          intro va wa sta
          have HA := Lib.hid (sta.cast (show _ = [45] ++ D.take (j + 1) by rw [take_snocI HY.out]; simp))
          clear sta hcy
          go_wp2_with fail
          go_roundw
          case rel => exact ⟨j + 1, by omega, by go_num, HA⟩
          case measure => simp [intOf]; omega
        · have hjm2 : j = q := by omega
          obtain rfl : q = j := hjm2.symm
          go_wp2_with fail
          go_loopw [0, 203] (fun s i wr => i = .int .i64 0 ∧ Hid (StB B W g T cs wr s ([45] ++ D.take q))) (fun _ _ _ => 0)
          case atStart => exact ⟨rfl, HJ⟩
          case round =>
            clear HJ
            obtain ⟨rfl, HZ⟩ := hrel
            go_upto_region 68 with fail
            go_wp2_with (at_builtin; refine by_lit HZ.out rfl (.tmp 214) (.tmp 215) rfl [46] _ rfl _ _ rfl rfl rfl (by simp only [List.length_append, List.length_cons, List.length_nil, List.length_take, List.length_drop, List.length_tail, List.length_replicate, HN.out]; omega) ?_)
            intro v2 w2 st2
            have HS2 := Lib.hid st2
            clear st2
            go_wp2_with fail
            go_loopw [0, 240] (fun s i wr => i = .int .i64 0 ∧ Hid (StB B W g T cs wr s ([45] ++ D.take q ++ [46]))) (fun _ _ _ => 0)
            case atStart => exact ⟨rfl, Lib.hid (HS2.out.cast (by simp))⟩
            case round =>
              clear HZ HS2
              obtain ⟨rfl, HZ2⟩ := hrel
              go_wp2_with fail
              go_loopw [0, 30, 247] (fun s _ i wr => ∃ k : Nat, k ≤ r ∧ i = .int .i64 k ∧ Hid (StB B W g T cs wr s ([45] ++ D.take q ++ [46] ++ (D.drop q).take k))) (fun _ _ i _ => r - (intOf i).toNat)
              case atStart => exact ⟨0, by omega, rfl, Lib.hid (HZ2.out.cast (by simp))⟩
              case round =>
                clear HZ2
                obtain ⟨k, hk, rfl, HK⟩ := hrel
                by_cases hkr : k < r
                · have hki : (k : Int) < (r : Int) := by omega
                  obtain ⟨y, hy⟩ : ∃ y, D[q + k]? = some y := ⟨D[q + k]'(by rw [HN.out]; omega), List.getElem?_eq_getElem _⟩
                  have hcy := cell_dig HK.out.buf HD.out hy
                  have HY := Lib.hid hy
                  have hjk2 : q + k < 32 := by omega
                  clear hy
                  go_upto_region 80 with fail
                  go_wp2_with (at_builtin; refine by_lit HK.out rfl (.tmp 250) (.tmp 257) rfl [y] _ rfl _ _ rfl rfl rfl (by simp only [List.length_append, List.length_cons, List.length_nil, List.length_take, List.length_drop, HN.out]; omega) ?_)
                  intro va wa sta
                  have HA := Lib.hid (sta.cast (show _ = [45] ++ D.take q ++ [46] ++ (D.drop q).take (k + 1) by rw [take_snocI (D := D.drop q) (j := k) (by rw [List.getElem?_drop]; exact HY.out)]; simp))
                  clear sta hcy
                  go_wp2_with fail
                  go_roundw
                  case rel => exact ⟨k + 1, by omega, by go_num, HA⟩
                  case measure => simp [intOf]; omega
                · obtain rfl : r = k := by omega
                  go_wp2_with fail
                  go_loopw [0, 261] (fun s i wr => i = .int .i64 0 ∧ Hid (StB B W g T cs wr s ([45] ++ D.take q ++ [46] ++ (D.drop q).take r))) (fun _ _ _ => 0)
                  case atStart => exact ⟨rfl, HK⟩
                  case round =>
                    clear HK
                    obtain ⟨rfl, HE⟩ := hrel
                    go_wp2_with fail
                    go_ret
                    exact ⟨_, rfl, HE.out.cast (by
                      have h5 : (D.drop q).take r = D.drop q := List.take_of_length_le (by rw [List.length_drop, HN.out]; omega)
                      rw [h5, ← HR.out]; simp [hjN, hrep])⟩
    case false =>
      go_enter Tryz.func206, Tryz.ntmps206
      go_wp2_with fail
      go_loopw [0, 25, 191] (fun s _ i wr => ∃ j : Nat, j ≤ q ∧ i = .int .i64 j ∧ Hid (StB B W g T cs wr s ([] ++ D.take j))) (fun _ _ i _ => q - (intOf i).toNat)
      case atStart => exact ⟨0, by omega, rfl, Lib.hid (HS.out.cast (by simp))⟩
      case round =>
        clear HS
        obtain ⟨j, hj, rfl, HJ⟩ := hrel
        by_cases hjm : j < q
        · have hji : (j : Int) < (q : Int) := by omega
          obtain ⟨y, hy⟩ : ∃ y, D[j]? = some y := ⟨D[j]'(by rw [HN.out]; omega), List.getElem?_eq_getElem _⟩
          have hcy := cell_dig HJ.out.buf HD.out hy
          have HY := Lib.hid hy
          clear hy
          go_upto_region 60 with fail
          go_wp2_with (at_builtin; refine by_lit HJ.out rfl (.tmp 195) (.tmp 197) rfl [y] _ rfl _ _ rfl rfl rfl (by simp only [List.length_append, List.length_cons, List.length_nil, List.length_take, HN.out]; omega) ?_)
          intro va wa sta
          have HA := Lib.hid (sta.cast (show _ = [] ++ D.take (j + 1) by rw [take_snocI HY.out]; simp))
          clear sta hcy
          go_wp2_with fail
          go_roundw
          case rel => exact ⟨j + 1, by omega, by go_num, HA⟩
          case measure => simp [intOf]; omega
        · have hjm2 : j = q := by omega
          obtain rfl : q = j := hjm2.symm
          go_wp2_with fail
          go_loopw [0, 203] (fun s i wr => i = .int .i64 0 ∧ Hid (StB B W g T cs wr s ([] ++ D.take q))) (fun _ _ _ => 0)
          case atStart => exact ⟨rfl, HJ⟩
          case round =>
            clear HJ
            obtain ⟨rfl, HZ⟩ := hrel
            go_upto_region 68 with fail
            go_wp2_with (at_builtin; refine by_lit HZ.out rfl (.tmp 214) (.tmp 215) rfl [46] _ rfl _ _ rfl rfl rfl (by simp only [List.length_append, List.length_cons, List.length_nil, List.length_take, List.length_drop, List.length_tail, List.length_replicate, HN.out]; omega) ?_)
            intro v1 w1 st1
            have HS1 := Lib.hid st1
            clear st1
            go_wp2_with fail
            go_loopw [0, 240] (fun s i wr => i = .int .i64 0 ∧ Hid (StB B W g T cs wr s ([] ++ D.take q ++ [46]))) (fun _ _ _ => 0)
            case atStart => exact ⟨rfl, Lib.hid (HS1.out.cast (by simp))⟩
            case round =>
              clear HZ HS1
              obtain ⟨rfl, HZ2⟩ := hrel
              go_wp2_with fail
              go_loopw [0, 30, 247] (fun s _ i wr => ∃ k : Nat, k ≤ r ∧ i = .int .i64 k ∧ Hid (StB B W g T cs wr s ([] ++ D.take q ++ [46] ++ (D.drop q).take k))) (fun _ _ i _ => r - (intOf i).toNat)
              case atStart => exact ⟨0, by omega, rfl, Lib.hid (HZ2.out.cast (by simp))⟩
              case round =>
                clear HZ2
                obtain ⟨k, hk, rfl, HK⟩ := hrel
                by_cases hkr : k < r
                · have hki : (k : Int) < (r : Int) := by omega
                  obtain ⟨y, hy⟩ : ∃ y, D[q + k]? = some y := ⟨D[q + k]'(by rw [HN.out]; omega), List.getElem?_eq_getElem _⟩
                  have hcy := cell_dig HK.out.buf HD.out hy
                  have HY := Lib.hid hy
                  have hjk2 : q + k < 32 := by omega
                  clear hy
                  go_upto_region 80 with fail
                  go_wp2_with (at_builtin; refine by_lit HK.out rfl (.tmp 250) (.tmp 257) rfl [y] _ rfl _ _ rfl rfl rfl (by simp only [List.length_append, List.length_cons, List.length_nil, List.length_take, List.length_drop, HN.out]; omega) ?_)
                  intro va wa sta
                  have HA := Lib.hid (sta.cast (show _ = [] ++ D.take q ++ [46] ++ (D.drop q).take (k + 1) by rw [take_snocI (D := D.drop q) (j := k) (by rw [List.getElem?_drop]; exact HY.out)]; simp))
                  clear sta hcy
                  go_wp2_with fail
                  go_roundw
                  case rel => exact ⟨k + 1, by omega, by go_num, HA⟩
                  case measure => simp [intOf]; omega
                · obtain rfl : r = k := by omega
                  go_wp2_with fail
                  go_loopw [0, 261] (fun s i wr => i = .int .i64 0 ∧ Hid (StB B W g T cs wr s ([] ++ D.take q ++ [46] ++ (D.drop q).take r))) (fun _ _ _ => 0)
                  case atStart => exact ⟨rfl, HK⟩
                  case round =>
                    clear HK
                    obtain ⟨rfl, HE⟩ := hrel
                    go_wp2_with fail
                    go_ret
                    exact ⟨_, rfl, HE.out.cast (by
                      have h5 : (D.drop q).take r = D.drop q := List.take_of_length_le (by rw [List.length_drop, HN.out]; omega)
                      rw [h5, ← HR.out]; simp [hjN, hrep])⟩
  · obtain ⟨r, hr⟩ : ∃ r : Nat, q = N + r := ⟨q - N, by omega⟩
    have hNq : (N : Int) - (q : Int) = -(r : Int) := by omega
    have hqNr : (q : Int) - (N : Int) = (r : Int) := by omega
    have hM : imin (N : Int) (q : Int) = (N : Int) := by unfold imin; split <;> omega
    have hqN : decide ((q : Int) < (N : Int)) = false := decide_eq_false (by omega)
    have i2 := imax_neg' r
    have hrep : q - N = r := by omega
    clear hr
    cases neg
    case true =>
      go_enter Tryz.func206, Tryz.ntmps206
      go_upto_region 54 with fail
      go_wp2_with (at_builtin; refine by_lit HS.out rfl (.tmp 179) (.tmp 180) rfl [45] _ rfl _ _ rfl rfl rfl (by simp only [List.length_append, List.length_cons, List.length_nil, List.length_take, List.length_drop, List.length_tail, List.length_replicate, HN.out]; omega) ?_)
      intro v1 w1 st1
      have HS1 := Lib.hid st1
      clear st1
      go_wp2_with fail
      go_loopw [0, 25, 191] (fun s _ i wr => ∃ j : Nat, j ≤ N ∧ i = .int .i64 j ∧ Hid (StB B W g T cs wr s ([45] ++ D.take j))) (fun _ _ i _ => N - (intOf i).toNat)
      case atStart => exact ⟨0, by omega, rfl, Lib.hid (HS1.out.cast (by simp))⟩
      case round =>
        clear HS HS1
        obtain ⟨j, hj, rfl, HJ⟩ := hrel
        by_cases hjm : j < N
        · have hji : (j : Int) < (N : Int) := by omega
          obtain ⟨y, hy⟩ : ∃ y, D[j]? = some y := ⟨D[j]'(by rw [HN.out]; omega), List.getElem?_eq_getElem _⟩
          have hcy := cell_dig HJ.out.buf HD.out hy
          have HY := Lib.hid hy
          clear hy
          go_upto_region 60 with fail
          go_wp2_with (at_builtin; refine by_lit HJ.out rfl (.tmp 195) (.tmp 197) rfl [y] _ rfl _ _ rfl rfl rfl (by simp only [List.length_append, List.length_cons, List.length_nil, List.length_take, HN.out]; omega) ?_)
          intro va wa sta
          have HA := Lib.hid (sta.cast (show _ = [45] ++ D.take (j + 1) by rw [take_snocI HY.out]; simp))
          clear sta hcy
          go_wp2_with fail
          go_roundw
          case rel => exact ⟨j + 1, by omega, by go_num, HA⟩
          case measure => simp [intOf]; omega
        · have hjm2 : j = N := by omega
          obtain rfl : N = j := hjm2.symm
          go_wp2_with fail
          go_loopw [0, 203] (fun s i wr => ∃ k : Nat, k ≤ r ∧ i = .int .i64 k ∧ Hid (StB B W g T cs wr s ([45] ++ D.take N ++ List.replicate k 48))) (fun _ i _ => r - (intOf i).toNat)
          case atStart => exact ⟨0, by omega, rfl, Lib.hid (HJ.out.cast (by simp))⟩
          case round =>
            clear HJ
            obtain ⟨k, hk, rfl, HK⟩ := hrel
            by_cases hkr : k < r
            · have hki : (k : Int) < (r : Int) := by omega
              go_upto_region 64 with fail
              go_wp2_with (at_builtin; refine by_lit HK.out rfl (.tmp 205) (.tmp 206) rfl [48] _ rfl _ _ rfl rfl rfl (by simp only [List.length_append, List.length_cons, List.length_nil, List.length_take, List.length_replicate, HN.out]; omega) ?_)
              intro va wa sta
              have HA := Lib.hid (sta.cast (show _ = [45] ++ D.take N ++ List.replicate (k + 1) 48 by rw [rep_snoc]; simp))
              clear sta
              go_wp2_with fail
              go_roundw
              case rel => exact ⟨k + 1, by omega, by go_num, HA⟩
              case measure => simp [intOf]; omega
            · obtain rfl : r = k := by omega
              go_wp2_with fail
              go_ret
              exact ⟨_, rfl, HK.out.cast (by
                have h5 : D.take N = D := List.take_of_length_le (by rw [HN.out]; exact Nat.le_refl _)
                have h6 : D.take q = D := List.take_of_length_le (by rw [HN.out]; omega)
                rw [h5, ← HR.out]; simp [h6, hjN, hrep])⟩
    case false =>
      go_enter Tryz.func206, Tryz.ntmps206
      go_wp2_with fail
      go_loopw [0, 25, 191] (fun s _ i wr => ∃ j : Nat, j ≤ N ∧ i = .int .i64 j ∧ Hid (StB B W g T cs wr s ([] ++ D.take j))) (fun _ _ i _ => N - (intOf i).toNat)
      case atStart => exact ⟨0, by omega, rfl, Lib.hid (HS.out.cast (by simp))⟩
      case round =>
        clear HS
        obtain ⟨j, hj, rfl, HJ⟩ := hrel
        by_cases hjm : j < N
        · have hji : (j : Int) < (N : Int) := by omega
          obtain ⟨y, hy⟩ : ∃ y, D[j]? = some y := ⟨D[j]'(by rw [HN.out]; omega), List.getElem?_eq_getElem _⟩
          have hcy := cell_dig HJ.out.buf HD.out hy
          have HY := Lib.hid hy
          clear hy
          go_upto_region 60 with fail
          go_wp2_with (at_builtin; refine by_lit HJ.out rfl (.tmp 195) (.tmp 197) rfl [y] _ rfl _ _ rfl rfl rfl (by simp only [List.length_append, List.length_cons, List.length_nil, List.length_take, HN.out]; omega) ?_)
          intro va wa sta
          have HA := Lib.hid (sta.cast (show _ = [] ++ D.take (j + 1) by rw [take_snocI HY.out]; simp))
          clear sta hcy
          go_wp2_with fail
          go_roundw
          case rel => exact ⟨j + 1, by omega, by go_num, HA⟩
          case measure => simp [intOf]; omega
        · have hjm2 : j = N := by omega
          obtain rfl : N = j := hjm2.symm
          go_wp2_with fail
          go_loopw [0, 203] (fun s i wr => ∃ k : Nat, k ≤ r ∧ i = .int .i64 k ∧ Hid (StB B W g T cs wr s ([] ++ D.take N ++ List.replicate k 48))) (fun _ i _ => r - (intOf i).toNat)
          case atStart => exact ⟨0, by omega, rfl, Lib.hid (HJ.out.cast (by simp))⟩
          case round =>
            clear HJ
            obtain ⟨k, hk, rfl, HK⟩ := hrel
            by_cases hkr : k < r
            · have hki : (k : Int) < (r : Int) := by omega
              go_upto_region 64 with fail
              go_wp2_with (at_builtin; refine by_lit HK.out rfl (.tmp 205) (.tmp 206) rfl [48] _ rfl _ _ rfl rfl rfl (by simp only [List.length_append, List.length_cons, List.length_nil, List.length_take, List.length_replicate, HN.out]; omega) ?_)
              intro va wa sta
              have HA := Lib.hid (sta.cast (show _ = [] ++ D.take N ++ List.replicate (k + 1) 48 by rw [rep_snoc]; simp))
              clear sta
              go_wp2_with fail
              go_roundw
              case rel => exact ⟨k + 1, by omega, by go_num, HA⟩
              case measure => simp [intOf]; omega
            · obtain rfl : r = k := by omega
              go_wp2_with fail
              go_ret
              exact ⟨_, rfl, HK.out.cast (by
                have h5 : D.take N = D := List.take_of_length_le (by rw [HN.out]; exact Nat.le_refl _)
                have h6 : D.take q = D := List.take_of_length_le (by rw [HN.out]; omega)
                rw [h5, ← HR.out]; simp [h6, hjN, hrep])⟩
end Go.Proofs.YticekgnmiaidjaaGreatDoor
