/- A single's parts; its shortest digits are there; what is printed. Plain. -/
import Derived.Test.YticekgnmiaidjaaGreatDoorFfF
import Derived.Lib.ItoaMem
import Derived.Lib.ItoaLen
import Derived.Laws.Bits64b
namespace Go.Proofs.YticekgnmiaidjaaGreatDoor

section
open Go.RowKit

set_option maxRecDepth 100000 in
set_option maxHeartbeats 8000000 in
theorem efg_f0 (neg : Bool) (D : List Int) (dp : Int) (B g : Nat) (T : TypeId) (cs : Array Value) (v : Value) (W : World) (st : StB B W g T cs W v []) (hN : D.length ≤ 32) (hD : ∀ (j : Nat) (y : Int), D[j]? = some y → cs[j]? = some (.int .u8 y)) (h1 : 1 ≤ D.length) (q : Nat) (hq : dp = -(q : Int)) (hq6 : q ≤ 3) :
    Calls Tryz.prog 206 #[v, .bool neg, .slice (some ⟨g, 0, none⟩) 32 32, .int .i64 dp, .int .i64 (D.length : Int), .int .i64 (D.length : Int), .int .u8 103, .bool true] W fun e w' => ∃ v', e = .returned v' ∧ StB B W g T cs w' v' (fmtT neg D dp) := by
  obtain ⟨R, hR⟩ : ∃ R, fmtT neg D dp = R := ⟨_, rfl⟩
  rw [hR]
  unfold fmtT at hR
  obtain ⟨N, hNe⟩ : ∃ N, D.length = N := ⟨_, rfl⟩
  rw [hNe] at hN hR ⊢
  have HD := Lib.hid hD
  have HN := Lib.hid hNe
  have HS := Lib.hid st
  have hm1 := imin_self (N : Int)
  clear hD st
  subst hq
  have c1 : ¬ (-(q : Int) - 1 < -4 ∨ 6 ≤ -(q : Int) - 1) := by omega
  have c2 : ¬ (0 : Int) < -(q : Int) := by omega
  rw [if_neg c1, if_neg c2] at hR
  rw [hNe] at h1
  have HR := Lib.hid hR
  clear hR hNe c1 c2
  have hb1 : decide (-(q : Int) - 1 < -4) = false := decide_eq_false (by omega)
  have hb2 : decide (6 ≤ -(q : Int) - 1) = false := decide_eq_false (by omega)
  have hb3 : decide (-(q : Int) < (N : Int)) = true := decide_eq_true (by omega)
  have hb4 : decide ((0 : Int) < -(q : Int)) = false := decide_eq_false (by omega)
  have hb5 : decide ((0 : Int) < (N : Int) + (q : Int)) = true := decide_eq_true (by omega)
  have hb6 : decide ((q : Int) < 0) = false := decide_eq_false (by omega)
  have hNq : (N : Int) - -(q : Int) = (N : Int) + (q : Int) := by omega
  have hqq : -(q : Int) + (q : Int) = 0 := by omega
  have hNN : (N : Int) + (q : Int) - (q : Int) = (N : Int) := by omega
  have i1 := imax_00
  have i2 : imax ((N : Int) + (q : Int)) 0 = (N : Int) + (q : Int) := by unfold imax; split <;> omega
  have i3 := imax_zero' q
  have i4 : imin ((N : Int) + (q : Int)) (q : Int) = (q : Int) := by unfold imin; split <;> omega
  have i5 := imax_zero' N
  have hN1 : decide ((0 : Int) < (N : Int)) = true := decide_eq_true (by omega)
  cases neg
  case true =>
    go_enter Tryz.func206, Tryz.ntmps206
    go_upto_region 54 with fail
    go_wp2_with (at_builtin; refine by_lit HS.out rfl (.tmp 179) (.tmp 180) rfl [45] _ rfl _ _ rfl rfl rfl (by simp only [List.length_append, List.length_cons, List.length_nil, List.length_take, List.length_drop, List.length_tail, List.length_replicate, HN.out]; omega) ?_)
    intro v1 w1 st1
    have HS1 := Lib.hid st1
    clear st1
    go_upto_region 66 with fail
    go_wp2_with (at_builtin; refine by_lit HS1.out rfl (.tmp 209) (.tmp 210) rfl [48] _ rfl _ _ rfl rfl rfl (by simp only [List.length_append, List.length_cons, List.length_nil, List.length_take, List.length_drop, List.length_tail, List.length_replicate, HN.out]; omega) ?_)
    intro v2 w2 st2
    have HS2 := Lib.hid st2
    clear st2
    go_upto_region 68 with fail
    go_wp2_with (at_builtin; refine by_lit HS2.out rfl (.tmp 214) (.tmp 215) rfl [46] _ rfl _ _ rfl rfl rfl (by simp only [List.length_append, List.length_cons, List.length_nil, List.length_take, List.length_drop, List.length_tail, List.length_replicate, HN.out]; omega) ?_)
    intro v3 w3 st3
    have HS3 := Lib.hid st3
    clear st3
    go_wp2_with fail
    go_loopw [0, 240] (fun s i wr => ∃ j : Nat, j ≤ q ∧ i = .int .i64 j ∧ Hid (StB B W g T cs wr s ([45] ++ [48] ++ [46] ++ List.replicate j 48))) (fun _ i _ => q - (intOf i).toNat)
    case atStart => exact ⟨0, by omega, rfl, Lib.hid (HS3.out.cast (by simp))⟩
    case round =>
      obtain ⟨j, hj, rfl, HK⟩ := hrel
      by_cases hjr : j < q
      · have hki : (j : Int) < (q : Int) := by omega
        go_upto_region 75 with fail
        go_wp2_with (at_builtin; refine by_lit HK.out rfl (.tmp 242) (.tmp 243) rfl [48] _ rfl _ _ rfl rfl rfl (by simp only [List.length_append, List.length_cons, List.length_nil, List.length_replicate]; omega) ?_)
        intro va wa sta
        have HA := Lib.hid (sta.cast (show _ = [45] ++ [48] ++ [46] ++ List.replicate (j + 1) 48 by rw [rep_snoc]; simp))
        clear sta
        go_wp2_with fail
        go_roundw
        case rel => exact ⟨j + 1, by omega, by go_num, HA⟩
        case measure => simp [intOf]; omega
      · obtain rfl : q = j := by omega
        go_wp2_with fail
        go_loopw [0, 30, 247] (fun s _ i wr => ∃ k : Nat, k ≤ N ∧ i = .int .i64 k ∧ Hid (StB B W g T cs wr s ([45] ++ [48] ++ [46] ++ List.replicate q 48 ++ D.take k))) (fun _ _ i _ => N - (intOf i).toNat)
        case atStart => exact ⟨0, by omega, rfl, Lib.hid (HK.out.cast (by simp))⟩
        case round =>
          clear HK
          obtain ⟨k, hk, rfl, HJ⟩ := hrel
          by_cases hkr : k < N
          · have hki : (k : Int) < (N : Int) := by omega
            obtain ⟨y, hy⟩ : ∃ y, D[k]? = some y := ⟨D[k]'(by rw [HN.out]; omega), List.getElem?_eq_getElem _⟩
            have hcy := cell_dig HJ.out.buf HD.out hy
            have HY := Lib.hid hy
            have hjk2 : k < 32 := by omega
            clear hy
            go_upto_region 80 with fail
            go_wp2_with (at_builtin; refine by_lit HJ.out rfl (.tmp 250) (.tmp 257) rfl [y] _ rfl _ _ rfl rfl rfl (by simp only [List.length_append, List.length_cons, List.length_nil, List.length_take, List.length_replicate, HN.out]; omega) ?_)
            intro va wa sta
            have HA := Lib.hid (sta.cast (show _ = [45] ++ [48] ++ [46] ++ List.replicate q 48 ++ D.take (k + 1) by rw [take_snocI HY.out]; simp))
            clear sta hcy
            go_wp2_with fail
            go_roundw
            case rel => exact ⟨k + 1, by omega, by go_num, HA⟩
            case measure => simp [intOf]; omega
          · obtain rfl : N = k := by omega
            go_wp2_with fail
            go_loopw [0, 261] (fun s i wr => i = .int .i64 0 ∧ Hid (StB B W g T cs wr s ([45] ++ [48] ++ [46] ++ List.replicate q 48 ++ D.take N))) (fun _ _ _ => 0)
            case atStart => exact ⟨rfl, HJ⟩
            case round =>
              clear HJ
              obtain ⟨rfl, HE⟩ := hrel
              go_wp2_with fail
              go_ret
              exact ⟨_, rfl, HE.out.cast (by
                have h5 : D.take N = D := List.take_of_length_le (by rw [HN.out]; exact Nat.le_refl _)
                have h6 : (0 : Int) < (N : Int) + (q : Int) := by omega
                rw [h5, ← HR.out]; simp [h6])⟩
  case false =>
    go_enter Tryz.func206, Tryz.ntmps206
    go_upto_region 66 with fail
    go_wp2_with (at_builtin; refine by_lit HS.out rfl (.tmp 209) (.tmp 210) rfl [48] _ rfl _ _ rfl rfl rfl (by simp only [List.length_append, List.length_cons, List.length_nil, List.length_take, List.length_drop, List.length_tail, List.length_replicate, HN.out]; omega) ?_)
    intro v1 w1 st1
    have HS1 := Lib.hid st1
    clear st1
    go_upto_region 68 with fail
    go_wp2_with (at_builtin; refine by_lit HS1.out rfl (.tmp 214) (.tmp 215) rfl [46] _ rfl _ _ rfl rfl rfl (by simp only [List.length_append, List.length_cons, List.length_nil, List.length_take, List.length_drop, List.length_tail, List.length_replicate, HN.out]; omega) ?_)
    intro v2 w2 st2
    have HS2 := Lib.hid st2
    clear st2
    go_wp2_with fail
    go_loopw [0, 240] (fun s i wr => ∃ j : Nat, j ≤ q ∧ i = .int .i64 j ∧ Hid (StB B W g T cs wr s ([] ++ [48] ++ [46] ++ List.replicate j 48))) (fun _ i _ => q - (intOf i).toNat)
    case atStart => exact ⟨0, by omega, rfl, Lib.hid (HS2.out.cast (by simp))⟩
    case round =>
      obtain ⟨j, hj, rfl, HK⟩ := hrel
      by_cases hjr : j < q
      · have hki : (j : Int) < (q : Int) := by omega
        go_upto_region 75 with fail
        go_wp2_with (at_builtin; refine by_lit HK.out rfl (.tmp 242) (.tmp 243) rfl [48] _ rfl _ _ rfl rfl rfl (by simp only [List.length_append, List.length_cons, List.length_nil, List.length_replicate]; omega) ?_)
        intro va wa sta
        have HA := Lib.hid (sta.cast (show _ = [] ++ [48] ++ [46] ++ List.replicate (j + 1) 48 by rw [rep_snoc]; simp))
        clear sta
        go_wp2_with fail
        go_roundw
        case rel => exact ⟨j + 1, by omega, by go_num, HA⟩
        case measure => simp [intOf]; omega
      · obtain rfl : q = j := by omega
        go_wp2_with fail
        go_loopw [0, 30, 247] (fun s _ i wr => ∃ k : Nat, k ≤ N ∧ i = .int .i64 k ∧ Hid (StB B W g T cs wr s ([] ++ [48] ++ [46] ++ List.replicate q 48 ++ D.take k))) (fun _ _ i _ => N - (intOf i).toNat)
        case atStart => exact ⟨0, by omega, rfl, Lib.hid (HK.out.cast (by simp))⟩
        case round =>
          clear HK
          obtain ⟨k, hk, rfl, HJ⟩ := hrel
          by_cases hkr : k < N
          · have hki : (k : Int) < (N : Int) := by omega
            obtain ⟨y, hy⟩ : ∃ y, D[k]? = some y := ⟨D[k]'(by rw [HN.out]; omega), List.getElem?_eq_getElem _⟩
            have hcy := cell_dig HJ.out.buf HD.out hy
            have HY := Lib.hid hy
            have hjk2 : k < 32 := by omega
            clear hy
            go_upto_region 80 with fail
            go_wp2_with (at_builtin; refine by_lit HJ.out rfl (.tmp 250) (.tmp 257) rfl [y] _ rfl _ _ rfl rfl rfl (by simp only [List.length_append, List.length_cons, List.length_nil, List.length_take, List.length_replicate, HN.out]; omega) ?_)
            intro va wa sta
            have HA := Lib.hid (sta.cast (show _ = [] ++ [48] ++ [46] ++ List.replicate q 48 ++ D.take (k + 1) by rw [take_snocI HY.out]; simp))
            clear sta hcy
            go_wp2_with fail
            go_roundw
            case rel => exact ⟨k + 1, by omega, by go_num, HA⟩
            case measure => simp [intOf]; omega
          · obtain rfl : N = k := by omega
            go_wp2_with fail
            go_loopw [0, 261] (fun s i wr => i = .int .i64 0 ∧ Hid (StB B W g T cs wr s ([] ++ [48] ++ [46] ++ List.replicate q 48 ++ D.take N))) (fun _ _ _ => 0)
            case atStart => exact ⟨rfl, HJ⟩
            case round =>
              clear HJ
              obtain ⟨rfl, HE⟩ := hrel
              go_wp2_with fail
              go_ret
              exact ⟨_, rfl, HE.out.cast (by
                have h5 : D.take N = D := List.take_of_length_le (by rw [HN.out]; exact Nat.le_refl _)
                have h6 : (0 : Int) < (N : Int) + (q : Int) := by omega
                rw [h5, ← HR.out]; simp [h6])⟩
set_option maxRecDepth 100000 in
set_option maxHeartbeats 4000000 in
theorem efg_zero (neg : Bool) (B g : Nat) (T : TypeId) (cs : Array Value) (v : Value) (W : World) (st : StB B W g T cs W v []) :
    Calls Tryz.prog 206 #[v, .bool neg, .slice none 0 0, .int .i64 0, .int .i64 0, .int .i64 (-1), .int .u8 103, .bool true] W fun e w' => ∃ v', e = .returned v' ∧ StB B W g T cs w' v' (fmtT neg [] 0) := by
  have HS := Lib.hid st
  have i1 : imax (-1) 0 = 0 := by decide
  clear st
  cases neg
  case true =>
    go_enter Tryz.func206, Tryz.ntmps206
    go_upto_region 54 with fail
    go_wp2_with (at_builtin; refine by_lit HS.out rfl (.tmp 179) (.tmp 180) rfl [45] _ rfl _ _ rfl rfl rfl (by simp only [List.length_append, List.length_cons, List.length_nil, List.length_take, List.length_drop, List.length_tail, List.length_replicate]; omega) ?_)
    intro v1 w1 st1
    have HS1 := Lib.hid st1
    clear st1
    go_upto_region 66 with fail
    go_wp2_with (at_builtin; refine by_lit HS1.out rfl (.tmp 209) (.tmp 210) rfl [48] _ rfl _ _ rfl rfl rfl (by simp only [List.length_append, List.length_cons, List.length_nil, List.length_take, List.length_drop, List.length_tail, List.length_replicate]; omega) ?_)
    intro v2 w2 st2
    have HS2 := Lib.hid st2
    clear st2
    go_wp2_with fail
    go_ret
    exact ⟨_, rfl, HS2.out.cast (by simp [fmtT])⟩
  case false =>
    go_enter Tryz.func206, Tryz.ntmps206
    go_upto_region 66 with fail
    go_wp2_with (at_builtin; refine by_lit HS.out rfl (.tmp 209) (.tmp 210) rfl [48] _ rfl _ _ rfl rfl rfl (by simp only [List.length_append, List.length_cons, List.length_nil, List.length_take, List.length_drop, List.length_tail, List.length_replicate]; omega) ?_)
    intro v1 w1 st1
    have HS1 := Lib.hid st1
    clear st1
    go_wp2_with fail
    go_ret
    exact ⟨_, rfl, HS1.out.cast (by simp [fmtT])⟩
/-- fmtEFG of any digits that are there. -/
theorem sc_fmtEFG (neg : Bool) (D : List Int) (dp : Int) (B g : Nat) (T : TypeId) (cs : Array Value) (v : Value) (W : World) (st : StB B W g T cs W v []) (hN : D.length ≤ 32) (hD : ∀ (j : Nat) (y : Int), D[j]? = some y → cs[j]? = some (.int .u8 y)) (h1 : 1 ≤ D.length) (he : -90 ≤ dp ∧ dp ≤ 90) :
    Calls Tryz.prog 206 #[v, .bool neg, .slice (some ⟨g, 0, none⟩) 32 32, .int .i64 dp, .int .i64 (D.length : Int), .int .i64 (D.length : Int), .int .u8 103, .bool true] W fun e w' => ∃ v', e = .returned v' ∧ StB B W g T cs w' v' (fmtT neg D dp) := by
  by_cases hd : dp - 1 < -4 ∨ 6 ≤ dp - 1
  · exact efg_e neg D dp B g T cs v W st hN hD h1 hd he
  · by_cases h0 : 0 < dp
    · exact efg_f1 neg D dp B g T cs v W st hN hD h1 dp.toNat (by omega) (by omega) (by omega)
    · exact efg_f0 neg D dp B g T cs v W st hN hD h1 (-dp).toNat (by omega) (by omega)
end

section
open Go.RowKit Go.Lib Go.Sort

/-- How many of the first k digits are left where noughts at the end are cut. -/
def trimK (l : List UInt8) : Nat → Nat
  | 0 => 0
  | k + 1 => if l.getD k 0 = 48 then trimK l k else k + 1
theorem trimK_succ (l : List UInt8) (k : Nat) : trimK l (k + 1) = if l.getD k 0 = 48 then trimK l k else k + 1 := by rw [trimK]
theorem trimK_le (l : List UInt8) : ∀ k, trimK l k ≤ k
  | 0 => Nat.le_refl _
  | k + 1 => by
    unfold trimK
    split
    · have := trimK_le l k; omega
    · exact Nat.le_refl _
theorem trimK_pos {l : List UInt8} (h : l.getD 0 0 ≠ 48) : ∀ k, 1 ≤ k → 1 ≤ trimK l k
  | k + 1, _ => by
    unfold trimK
    split
    · rename_i hk
      cases k with
      | zero => exact absurd hk h
      | succ k => exact trimK_pos h (k + 1) (by omega)
    · omega
theorem dec_fst : ∀ (n u : Nat), u ≤ n → 1 ≤ u → (Lib.decDigits u).getD 0 0 ≠ 48
  | n, u, hn, h1 => by
    by_cases h : u < 10
    · rw [Lib.decDigits, dif_pos h]
      have key : ∀ n : Fin 10, 1 ≤ n.val → ([UInt8.ofNat (48 + n.val)] : List UInt8).getD 0 0 ≠ 48 := by decide
      exact key ⟨u, h⟩ h1
    · cases n with
      | zero => omega
      | succ n =>
        have ih := dec_fst n (u / 10) (by omega) (by omega)
        rw [Lib.decDigits, dif_neg h]
        have hl : 0 < (Lib.decDigits (u / 10)).length := by rw [decDigits_length]; exact nDigits_pos _
        rw [List.getD_eq_getElem?_getD, List.getElem?_append_left hl, ← List.getD_eq_getElem?_getD]
        exact ih
/-- The digits of a number without the noughts at its end, as bytes. -/
def digD (u : Nat) : List Int := ((Lib.decDigits u).take (trimK (Lib.decDigits u) (Lib.nDigits u))).map fun c => (c.toNat : Int)
theorem digD_len (u : Nat) : (digD u).length = trimK (Lib.decDigits u) (Lib.nDigits u) := by
  unfold digD
  rw [List.length_map, List.length_take, decDigits_length]
  have := trimK_le (Lib.decDigits u) (Lib.nDigits u)
  omega
theorem digD_pos {u : Nat} (h : 1 ≤ u) : 1 ≤ (digD u).length := by
  rw [digD_len]
  exact trimK_pos (dec_fst _ u (Nat.le_refl _) h) _ (nDigits_pos _)
def zero32 : Array Value := Array.replicate 32 (.int .u8 0)
theorem putCells_at {d : Array UInt8} {cs : Array Value} {j : Nat} (h : j < d.size) (hc : j < cs.size) : (putCells (fun (b : UInt8) => Value.int .u8 (b.toNat : Int)) 0 d cs)[j]? = some (.int .u8 ((d[j]!).toNat : Int)) := by
  unfold putCells
  rw [Array.getElem?_mapIdx, Array.getElem?_eq_getElem hc]
  simp [h]
set_option maxRecDepth 100000 in
set_option maxHeartbeats 4000000 in
theorem sc_setDigits (g u : Nat) (p : Int) (W : World) (b : Bx W g 234 zero32) (h1 : 1 ≤ u) (h2 : u < 18446744073709551616) (hp : -100 ≤ p ∧ p ≤ 100) :
    Calls Tryz.prog 208 #[.slice (some ⟨g, 0, none⟩) 32 32, .int .u64 (u : Int), .int .i64 p, .int .i64 (Lib.nDigits u : Int)] W fun e w' => e = .returned (.tuple #[.int .i64 ((Lib.nDigits u : Int) + p), .int .i64 ((digD u).length : Int)]) ∧ Below g W w' ∧ ∃ cs, Bx w' g 234 cs ∧ ∀ (j : Nat) (y : Int), (digD u)[j]? = some y → cs[j]? = some (.int .u8 y) := by
  have hn20 := nDigits_le20 u h2
  have hn1 := nDigits_pos u
  have hdl := decDigits_length u
  have hlt := lt_pow_nDigits u
  obtain ⟨L, hL⟩ : ∃ L, Lib.decDigits u = L := ⟨_, rfl⟩
  have hrow : ∀ (v' : Nat) (dk : Array UInt8), FmtInv (nDigits u) u 0 v' dk → dk.size = nDigits u ∧ ∀ j, j < nDigits u → L.getD j 0 = dk[j]! := fun v' dk h => ⟨h.size, fun j hj => by
    have := row_is_numeral h j (by rw [hdl]; exact hj)
    rw [← this, ← hL, List.getD_eq_getElem?_getD, List.getElem?_eq_getElem (by rw [hdl]; exact hj)]; rfl⟩
  obtain ⟨DL, hDL⟩ : ∃ D, digD u = D := ⟨_, rfl⟩
  have hDlen := digD_len u
  rw [hDL, hL] at hDlen
  have hDat : ∀ (j : Nat) (y : Int), DL[j]? = some y → j < nDigits u ∧ y = ((L.getD j 0).toNat : Int) := fun j y hj => by
    rw [← hDL] at hj
    unfold digD at hj
    rw [hL, List.getElem?_map, Option.map_eq_some_iff] at hj
    obtain ⟨c, hc, rfl⟩ := hj
    rw [List.getElem?_take] at hc
    split at hc
    · have hjl := (List.getElem?_eq_some_iff.1 hc).1
      rw [← hL, hdl] at hjl
      exact ⟨hjl, by rw [List.getD_eq_getElem?_getD, hc]; rfl⟩
    · cases hc
  rw [hL] at hdl
  rw [hDL, hDlen]
  have hz : Holds (fun (b : UInt8) => Value.int .u8 (b.toNat : Int)) W g 0 (Array.replicate (nDigits u) 0) := fun j hj => by
    rw [Array.size_replicate] at hj
    refine ⟨?_, b.all.2.1 _⟩
    rw [Nat.zero_add, b.all.1 j]
    unfold zero32
    rw [Array.getElem?_replicate, if_pos (by omega), getElem!_pos _ j (by simpa using hj)]
    simp
  have KF := Lib.hid (fun w (h : Holds (fun (b : UInt8) => Value.int .u8 (b.toNat : Int)) w g 0 (Array.replicate (nDigits u) 0)) => Tryz.internal_strconv_formatBase10 g 0 32 u (Array.replicate (nDigits u) 0) w h (by rw [Array.size_replicate]; exact hlt) h2 (by rw [Array.size_replicate]; omega))
  rw [Array.size_replicate] at KF
  have HR := Lib.hid hrow
  have HZ := Lib.hid hz
  have HB := Lib.hid b
  have HD := Lib.hid hDat
  generalize nDigits u = N at *
  have hw1 : IntKind.i64.wrap ((N : Int) + p) = (N : Int) + p := by rw [IntKind.wrap_i64]; omega
  have hle : decide ((N : Int) ≤ 32) = true := decide_eq_true (by omega)
  have hgl := b.lt
  clear hrow hz hlt hDat hDL hL h1 h2 hDlen
  go_enter Tryz.func208, Tryz.ntmps208
  go_wp2_with fail
  refine (KF.out _ HZ.out).mono ?_
  rintro e w1 ⟨rfl, n, v', dk, hw, hf⟩
  obtain ⟨hds, hdj⟩ := HR.out _ _ hf
  have x1 : Bx w1 g 234 (putCells (fun (b : UInt8) => Value.int .u8 (b.toNat : Int)) 0 dk zero32) := by
    rw [hw]
    show (mapBlock W g _).heap[g]? = _
    unfold mapBlock
    have : W.heap[g]? = some (.cells zero32 234 (0, 0)) := HB.out
    simp [Array.getElem?_modify, this, onCells]
  have B1 : Below g W w1 := by
    rw [hw]
    refine below_drewN ?_ n
    exact ⟨rfl, rfl, rfl, by simp [putRow, mapBlock], fun k hk => by
      show (mapBlock W g _).heap[k]? = _
      unfold mapBlock
      simp [Array.getElem?_modify, show g ≠ k by omega]⟩
  have hcell : ∀ j, j < N → w1.cell? ⟨g, j, none⟩ = some (.int .u8 ((L.getD j 0).toNat : Int)) := fun j hj => by
    rw [x1.all.1 j, putCells_at (by omega) (by unfold zero32; rw [Array.size_replicate]; omega), hdj j hj]
  have HX := Lib.hid (And.intro x1 (And.intro B1 (And.intro hcell (And.intro hds hdj))))
  clear hw hf hds hdj x1 B1 hcell KF HZ HB
  go_wp2_with fail
  go_loopw [3] (fun s wr => ∃ k : Nat, k ≤ N ∧ s = .int .i64 k ∧ Hid (trimK L k = trimK L N) ∧ wr = w1) (fun s _ => (RowKit.intOf s).toNat)
  case atStart => exact ⟨N, Nat.le_refl _, rfl, Lib.hid rfl, rfl⟩
  case round =>
    obtain ⟨k, hk, rfl, HT, rfl⟩ := hrel
    cases k with
    | zero =>
      go_wp2_with fail
      go_ret2
      refine ⟨?_, HX.out.2.1, _, HX.out.1, fun j y hj => ?_⟩
      · rw [← HT.out]; rfl
      · obtain ⟨h1, rfl⟩ := HD.out j y hj
        rw [putCells_at (by rw [HX.out.2.2.2.1]; exact h1) (by unfold zero32; rw [Array.size_replicate]; omega), HX.out.2.2.2.2 j h1]
    | succ k =>
      have hc := HX.out.2.2.1 k (by omega)
      obtain ⟨z, hz⟩ : ∃ z, ((L.getD k 0).toNat : Int) = z := ⟨_, rfl⟩
      rw [hz] at hc
      have hk1 : ((k + 1 : Nat) : Int) - 1 = (k : Int) := by omega
      have hpos : decide ((0 : Int) < (k : Int) + 1) = true := decide_eq_true (by omega)
      have hk32 : k < 32 := by omega
      by_cases hz48 : z = 48
      · have HT2 : Hid (trimK L k = trimK L N) := Lib.hid (by
          rw [← HT.out, trimK_succ, if_pos]
          apply UInt8.toNat_inj.1
          have : (48 : UInt8).toNat = 48 := rfl
          omega)
        subst hz48
        clear hz
        go_wp2_with fail
        go_roundw
        case rel => exact ⟨k, by omega, by go_num, HT2, by first | rfl | trivial⟩
        case measure => simp [RowKit.intOf]
      · have HT2 : Hid (trimK L N = k + 1) := Lib.hid (by
          rw [← HT.out, trimK_succ, if_neg]
          intro e
          rw [e] at hz
          exact hz48 hz.symm)
        have hzb : (z == 48) = false := by rw [beq_eq_false_iff_ne]; exact hz48
        clear hz hz48
        go_wp2_with fail
        go_ret2
        refine ⟨?_, HX.out.2.1, _, HX.out.1, fun j y hj => ?_⟩
        · rw [HT2.out]; simp
        · obtain ⟨h1, rfl⟩ := HD.out j y hj
          rw [putCells_at (by rw [HX.out.2.2.2.1]; exact h1) (by unfold zero32; rw [Array.size_replicate]; omega), HX.out.2.2.2.2 j h1]
end

section
open Go.RowKit

theorem tab_ge : (Pinned.pow10Rows.all fun x => decide (9223372036854775808 ≤ x.1)) = true := by decide +kernel
theorem tab_len : Pinned.pow10Rows.length = 696 := by decide +kernel
theorem tabHi_ge {i : Nat} (h : i < 696) : 9223372036854775808 ≤ tabHi i := by
  unfold tabHi
  have hl : i < Pinned.pow10Rows.length := by rw [tab_len]; exact h
  rw [List.getD_eq_getElem?_getD, List.getElem?_eq_getElem hl]
  have := List.all_eq_true.1 tab_ge _ (List.getElem_mem hl)
  simpa using this
theorem sf_consts2 (k : Nat) (hk : k < 277) : ∀ b : Bool, (b = true → -189 < (k : Int) - 212) → let e : Int := (k : Int) - 212; let p : Int := if b = true then -(((e + 40) * 631305 - 261663) / 2097152) else -((e + (sfZ e : Int)) * 78913 / 262144); 4 ≤ -(e + p * 108853 / 32768 + 3) ∧ -(e + p * 108853 / 32768 + 3) ≤ 60 := by
  have key : ∀ n : Fin 277, ∀ b : Bool, (b = true → -189 < ((n.val : Nat) : Int) - 212) → (let e : Int := ((n.val : Nat) : Int) - 212; let p : Int := if b = true then -(((e + 40) * 631305 - 261663) / 2097152) else -((e + (sfZ e : Int)) * 78913 / 262144); 4 ≤ -(e + p * 108853 / 32768 + 3) ∧ -(e + p * 108853 / 32768 + 3) ≤ 60) := by decide +kernel
  exact key ⟨k, hk⟩
theorem SfOk.consts2 {m : Nat} {e : Int} (h : SfOk m e) : 4 ≤ sfS m e ∧ sfS m e ≤ 60 := by
  have h0 := h.e0
  have h1 := h.e1
  obtain ⟨k, hk⟩ : ∃ k : Nat, (k : Int) - 212 = e := ⟨(e + 212).toNat, by omega⟩
  have := sf_consts2 k (by omega) (sfSk m e) (fun hb => by
    unfold sfSk at hb
    simp only [Bool.and_eq_true, decide_eq_true_eq] at hb
    omega)
  simp only [hk] at this
  unfold sfS
  have h2 : 4 ≤ -(e + sfP m e * 108853 / 32768 + 3) ∧ -(e + sfP m e * 108853 / 32768 + 3) ≤ 60 := this
  omega
theorem or_le {a b : Int} (ha : 0 ≤ a) (hb : 0 ≤ b) (ha2 : a < 18446744073709551616) (hb2 : b ≤ 1) : a ≤ bits .or .u64 a b ∧ bits .or .u64 a b ≤ a + 1 := by
  obtain ⟨x, rfl⟩ : ∃ x : Nat, a = x := ⟨a.toNat, by omega⟩
  obtain ⟨y, rfl⟩ : ∃ y : Nat, b = y := ⟨b.toNat, by omega⟩
  rw [bits_or_u64_nat x y (by omega) (by omega)]
  have h1 : x ≤ x ||| y := Nat.left_le_or
  have h2 : x ||| y ≤ x + y := by
    rcases (by omega : y = 0 ∨ y = 1) with rfl | rfl
    · simp
    · have e1 := Nat.two_pow_add_eq_or_of_lt (i := 1) (show x % 2 < 2 ^ 1 by omega) (x / 2)
      have e2 := Nat.two_pow_add_eq_or_of_lt (i := 1) (show 1 < 2 ^ 1 by decide) (x / 2)
      have e3 : x = 2 ^ 1 * (x / 2) + x % 2 := by omega
      have e4 : x ||| 1 = 2 ^ 1 * (x / 2) + 1 := by
        rw [e2]
        conv => lhs; rw [e3, e1]
        rw [Nat.or_assoc]
        congr 1
        rcases (by omega : x % 2 = 0 ∨ x % 2 = 1) with h | h <;> rw [h] <;> decide
      omega
  omega
theorem b2_range (b : Bool) : 0 ≤ b2 b ∧ b2 b ≤ 1 := by cases b <;> decide
/-- What uscale gives is about x * hi / 2^(64 + s). -/
theorem uscF_bounds {x hi lo s : Nat} (hx : x < 18446744073709551616) (hh : hi < 18446744073709551616) (h1 : 1 ≤ x * hi / 18446744073709551616) : ((x * hi / 18446744073709551616 - 1) / 2 ^ s : Nat) ≤ uscF x hi lo s ∧ uscF x hi lo s ≤ ((x * hi / 18446744073709551616) / 2 ^ s : Nat) + 1 := by
  have hH : x * hi / 18446744073709551616 < 18446744073709551616 := by
    rw [Nat.div_lt_iff_lt_mul (by decide)]
    exact Nat.mul_lt_mul'' hx hh
  obtain ⟨H, hHe⟩ : ∃ H, x * hi / 18446744073709551616 = H := ⟨_, rfl⟩
  unfold uscF
  rw [hHe] at h1 hH ⊢
  have e2 : (2 : Int) ^ s = ((2 ^ s : Nat) : Int) := by simp
  have hp : 0 < 2 ^ s := Nat.two_pow_pos s
  have d1 : (H - 1) / 2 ^ s ≤ H / 2 ^ s := Nat.div_le_div_right (by omega)
  have d2 : H / 2 ^ s ≤ H := Nat.div_le_self _ _
  split
  · have hb := b2_range (decide (x * hi % 18446744073709551616 < x * lo / 18446744073709551616))
    have hb2 := b2_range (decide (1 < IntKind.u64.wrap (((x * hi % 18446744073709551616 : Nat) : Int) - ((x * lo / 18446744073709551616 : Nat) : Int))))
    generalize b2 (decide (x * hi % 18446744073709551616 < x * lo / 18446744073709551616)) = c at *
    generalize b2 (decide (1 < IntKind.u64.wrap (((x * hi % 18446744073709551616 : Nat) : Int) - ((x * lo / 18446744073709551616 : Nat) : Int)))) = c2 at *
    have hw : IntKind.u64.wrap ((H : Int) - c) = (H : Int) - c := by rw [IntKind.wrap_u64]; omega
    obtain ⟨K, hK⟩ : ∃ K : Nat, (H : Int) - c = K := ⟨((H : Int) - c).toNat, by omega⟩
    rw [hw, hK, e2, ← Int.natCast_ediv]
    have k1 : (H - 1) / 2 ^ s ≤ K / 2 ^ s := Nat.div_le_div_right (by omega)
    have k2 : K / 2 ^ s ≤ H / 2 ^ s := Nat.div_le_div_right (by omega)
    have k3 : K / 2 ^ s ≤ K := Nat.div_le_self _ _
    generalize K / 2 ^ s = q1 at *
    generalize (H - 1) / 2 ^ s = q0 at *
    generalize H / 2 ^ s = q2 at *
    have := or_le (a := (q1 : Int)) (b := c2) (by omega) hb2.1 (by omega) hb2.2
    omega
  · rw [e2, ← Int.natCast_ediv]
    generalize (H - 1) / 2 ^ s = q0 at *
    generalize H / 2 ^ s = q2 at *
    have := or_le (a := (q2 : Int)) (b := 1) (by omega) (by decide) (by omega) (by decide)
    omega
theorem mul_hi {x hi : Nat} {a : Nat} (hx : a * 2 ≤ x) (hh : 9223372036854775808 ≤ hi) : a ≤ x * hi / 18446744073709551616 := by
  rw [Nat.le_div_iff_mul_le (by decide)]
  have e : 2 * 9223372036854775808 = 18446744073709551616 := by decide
  rw [← e, ← Nat.mul_assoc]
  exact Nat.mul_le_mul hx hh
theorem mul_lo {x hi : Nat} (hx : x < 18446744073709551616) (hh : hi < 18446744073709551616) : x * hi / 18446744073709551616 < 18446744073709551616 := by
  rw [Nat.div_lt_iff_lt_mul (by decide)]
  exact Nat.mul_lt_mul'' hx hh
theorem div_lo {H k S : Nat} (hS : S ≤ 60) (h : k * 1152921504606846976 ≤ H) : k ≤ H / 2 ^ S := by
  rw [Nat.le_div_iff_mul_le (Nat.two_pow_pos _)]
  have h2 : (2 : Nat) ^ S ≤ 2 ^ 60 := Nat.pow_le_pow_right (by decide) hS
  have e : (2 : Nat) ^ 60 = 1152921504606846976 := by decide
  rw [e] at h2
  exact Nat.le_trans (Nat.mul_le_mul_left _ h2) h
theorem div_hi {H S : Nat} (hS : 4 ≤ S) (h : H < 18446744073709551616) : H / 2 ^ S < 1152921504606846976 := by
  rw [Nat.div_lt_iff_lt_mul (Nat.two_pow_pos _)]
  have h2 : (2 : Nat) ^ 4 ≤ 2 ^ S := Nat.pow_le_pow_right (by decide) hS
  have e : (2 : Nat) ^ 4 = 16 := by decide
  rw [e] at h2
  generalize (2 : Nat) ^ S = P at *
  have h3 : 1152921504606846976 * 16 ≤ 1152921504606846976 * P := Nat.mul_le_mul_left _ h2
  omega
/-- uscale at a great x: at least k, and far from wrapping. -/
theorem usc_of {x hi lo S a k : Nat} (hx : a * 2 ≤ x) (hx2 : x < 18446744073709551616) (h1 : 9223372036854775808 ≤ hi) (h2 : hi < 18446744073709551616) (ha : k * 1152921504606846976 + 1 ≤ a) (s1 : 4 ≤ S) (s2 : S ≤ 60) : (k : Int) ≤ uscF x hi lo S ∧ uscF x hi lo S ≤ 1152921504606846976 := by
  have a1 := mul_hi hx h1
  have a2 := mul_lo hx2 h2
  have u := uscF_bounds (lo := lo) (s := S) hx2 h2 (by omega)
  have hl : k * 1152921504606846976 ≤ x * hi / 18446744073709551616 - 1 := by
    clear u a2 hx hx2 h1 h2
    generalize x * hi / 18446744073709551616 = q at *
    generalize k * 1152921504606846976 = kk at *
    omega
  have l := div_lo s2 hl
  have r := div_hi s1 a2
  generalize (x * hi / 18446744073709551616 - 1) / 2 ^ S = q0 at *
  generalize x * hi / 18446744073709551616 / 2 ^ S = q1 at *
  clear a1 a2 ha
  omega
theorem SfOk.us {m : Nat} {e : Int} (ok : SfOk m e) : 1 ≤ sfU m e (sfMin m e) ∧ sfU m e (sfMin m e) ≤ 1152921504606846976 ∧ 3 ≤ sfU m e m ∧ sfU m e m ≤ 1152921504606846976 := by
  obtain ⟨c1, c2, _, _⟩ := ok.consts
  obtain ⟨s1, s2⟩ := ok.consts2
  have hzr := sfZ_range ok.e0
  have hI : sfI m e < 696 := by unfold sfI; omega
  have hhi := tabHi_ge hI
  have hhl := tabHi_lt (sfI m e)
  obtain ⟨hm0, he0, he1, hm1⟩ := ok
  clear c1 c2 he0 he1 hI
  have k40 : (2 : Nat) ^ 40 ≤ 2 ^ sfZ e := Nat.pow_le_pow_right (by decide) hzr.1
  have k63 : (2 : Nat) ^ sfZ e ≤ 2 ^ 63 := Nat.pow_le_pow_right (by decide) hzr.2
  have k39 : 2 ^ (sfZ e - 1) * 2 = 2 ^ sfZ e := by rw [← Nat.pow_succ]; congr 1; omega
  have hmn : 2305843009213693952 * 2 ≤ sfMin m e ∧ sfMin m e < 18446744073709551616 := by
    unfold sfMin; split <;> omega
  have hmlt : m < 18446744073709551616 := by omega
  have u1 := usc_of (k := 1) (lo := tabLo (sfI m e)) hmn.1 hmn.2 hhi hhl (by decide) s1 s2
  have u3 := usc_of (a := 4611686018427387904) (k := 3) (lo := tabLo (sfI m e)) (by omega) hmlt hhi hhl (by decide) s1 s2
  exact ⟨u1.1, u1.2, u3.1, u3.2⟩
theorem SfOk.pos {m : Nat} {e : Int} (ok : SfOk m e) : 1 ≤ (shortF m e).1 := by
  have hod := sfOdd_range m e
  obtain ⟨a1, a2, a3, a4⟩ := ok.us
  have hdn : 1 ≤ sfDmin m e := by
    unfold sfDmin
    generalize sfU m e (sfMin m e) = U at *
    generalize sfOdd m e = O at *
    have w0 : IntKind.u64.wrap O = O := by rw [IntKind.wrap_u64]; omega
    have w1 : IntKind.u64.wrap (U + O) = U + O := by rw [IntKind.wrap_u64]; omega
    have w2 : IntKind.u64.wrap (U + O + 3) = U + O + 3 := by rw [IntKind.wrap_u64]; omega
    rw [w0, w1, w2]; omega
  have hdx : 0 ≤ sfDmax m e ∧ sfDmax m e < 4611686018427387904 := by
    unfold sfDmax
    generalize sfU m e (sfMax m e) + IntKind.u64.wrap (-(sfOdd m e)) = z
    have : 0 ≤ IntKind.u64.wrap z ∧ IntKind.u64.wrap z < 18446744073709551616 := by rw [IntKind.wrap_u64]; omega
    omega
  unfold shortF
  generalize sfDmin m e = DN at *
  generalize sfDmax m e = DX at *
  generalize sfU m e m = U at *
  split
  · rename_i h
    have w : IntKind.u64.wrap (DX / 10 * 10) = DX / 10 * 10 := by rw [IntKind.wrap_u64]; omega
    rw [w] at h
    dsimp only
    omega
  · split
    · dsimp only
      unfold roundU
      rw [show bits .and .u64 (U / 4) 1 = U / 4 % 2 from by
        obtain ⟨x, hx⟩ : ∃ x : Nat, U / 4 = x := ⟨(U / 4).toNat, by omega⟩
        rw [hx]
        have h := bits_and_u64_nat x 1 (by omega) (by omega)
        rw [show ((1 : Nat) : Int) = 1 from rfl] at h
        rw [h, Nat.and_one_is_mod]; omega]
      have w1 : IntKind.u64.wrap (U + 1) = U + 1 := by rw [IntKind.wrap_u64]; omega
      have w2 : IntKind.u64.wrap (U + 1 + U / 4 % 2) = U + 1 + U / 4 % 2 := by rw [IntKind.wrap_u64]; omega
      rw [w1, w2]; omega
    · exact hdn
theorem SfOk.dp {m : Nat} {e : Int} (ok : SfOk m e) : -60 ≤ (shortF m e).2 ∧ (shortF m e).2 ≤ 41 := by
  obtain ⟨c1, c2, _, _⟩ := ok.consts
  unfold shortF
  split
  · dsimp only; omega
  · split <;> dsimp only <;> omega

/-! ### The parts of a single -/
def sgB (x : Nat) : Bool := decide (2147483648 ≤ x)
def exN (x : Nat) : Nat := x / 8388608 % 256
def mtN (x : Nat) : Nat := if exN x = 0 then x % 8388608 else x % 8388608 + 8388608
def exE (x : Nat) : Int := (if exN x = 0 then 1 else (exN x : Int)) - 127
def shN (x : Nat) : Nat := 64 - Lib.bitLen (mtN x)
def mnN (x : Nat) : Nat := mtN x * 2 ^ shN x
def seE (x : Nat) : Int := exE x - (shN x : Int) - 23
/-- What is printed of a single that is a number. -/
def ftoaT (x : Nat) : List Int :=
  if mtN x = 0 then fmtT (sgB x) [] 0
  else fmtT (sgB x) (digD (shortF (mnN x) (seE x)).1.toNat) ((Lib.nDigits (shortF (mnN x) (seE x)).1.toNat : Int) + (shortF (mnN x) (seE x)).2)
theorem bitLen_bounds : ∀ (k x : Nat), x < 2 ^ k → k ≤ 64 → 1 ≤ x → 1 ≤ Lib.bitLen x ∧ Lib.bitLen x ≤ k ∧ 2 ^ (Lib.bitLen x - 1) ≤ x ∧ x < 2 ^ Lib.bitLen x
  | 0, x, h, _, h1 => by simp at h; omega
  | k + 1, x, h, hk, h1 => by
    have h64 : x < 2 ^ 64 := Nat.lt_of_lt_of_le h (Nat.pow_le_pow_right (by decide) hk)
    rw [Lib.bitLen_half x (by omega) h64]
    by_cases h2 : x / 2 = 0
    · rw [h2]
      have : Lib.bitLen 0 = 0 := by decide
      rw [this]
      have : x = 1 := by omega
      subst this
      exact ⟨by decide, by omega, by decide, by decide⟩
    · have ih := bitLen_bounds k (x / 2) (by rw [Nat.pow_succ] at h; omega) (by omega) (by omega)
      obtain ⟨i1, i2, i3, i4⟩ := ih
      have e : 1 + Lib.bitLen (x / 2) - 1 = (Lib.bitLen (x / 2) - 1) + 1 := by omega
      refine ⟨by omega, by omega, ?_, ?_⟩
      · rw [e, Nat.pow_succ]; omega
      · rw [Nat.add_comm, Nat.pow_succ]; omega
theorem sf_of {x : Nat} (h0 : mtN x ≠ 0) (hx : exN x < 255) : SfOk (mnN x) (seE x) ∧ 40 ≤ shN x ∧ shN x ≤ 63 ∧ Lib.bitLen (mtN x) + shN x = 64 ∧ mnN x < 18446744073709551616 := by
  have hm : mtN x < 2 ^ 24 := by unfold mtN; split <;> omega
  obtain ⟨b1, b2, b3, b4⟩ := bitLen_bounds 24 (mtN x) hm (by decide) (by omega)
  have hs : Lib.bitLen (mtN x) + shN x = 64 := by unfold shN; omega
  have hE : -126 ≤ exE x ∧ exE x ≤ 127 := by unfold exE; split <;> omega
  have p1 : 2 ^ (Lib.bitLen (mtN x) - 1) * 2 ^ shN x = 2 ^ 63 := by rw [← Nat.pow_add]; congr 1; omega
  have p2 : 2 ^ Lib.bitLen (mtN x) * 2 ^ shN x = 2 ^ 64 := by rw [← Nat.pow_add]; congr 1
  have q1 : 2 ^ (Lib.bitLen (mtN x) - 1) * 2 ^ shN x ≤ mtN x * 2 ^ shN x := Nat.mul_le_mul_right _ b3
  have q2 : (mtN x + 1) * 2 ^ shN x ≤ 2 ^ Lib.bitLen (mtN x) * 2 ^ shN x := Nat.mul_le_mul_right _ b4
  rw [Nat.add_mul, Nat.one_mul] at q2
  have hz : sfZ (seE x) ≤ shN x := by
    unfold sfZ seE
    split <;> omega
  have q3 : 2 ^ sfZ (seE x) ≤ 2 ^ shN x := Nat.pow_le_pow_right (by decide) hz
  have qp : 0 < 2 ^ shN x := Nat.two_pow_pos _
  refine ⟨⟨?_, ?_, ?_, ?_⟩, by omega, by omega, hs, ?_⟩
  · unfold mnN; omega
  · unfold seE; omega
  · unfold seE; omega
  · unfold mnN; omega
  · unfold mnN; omega
end
end Go.Proofs.YticekgnmiaidjaaGreatDoor
