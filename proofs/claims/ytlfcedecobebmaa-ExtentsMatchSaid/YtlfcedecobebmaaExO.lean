/- num.Kind; scope.Odd and dyeref1.Odd. (printed by gen_exo.py) -/
import Derived.Test.YtlfcedecobebmaaExK
namespace Go.Proofs.Ytlfcedecobebmaa
open Go.RowKit

theorem kind_cases (b : Nat) : (kindOf b = 0 ∧ b % 2147483648 = 0) ∨ (kindOf b = 1 ∧ b % 2147483648 ≠ 0 ∧ b % 2147483648 < 8388608) ∨ (kindOf b = 2 ∧ 8388608 ≤ b % 2147483648 ∧ b % 2147483648 < 2139095040) ∨ (kindOf b = 3 ∧ b % 2147483648 = 2139095040) ∨ (kindOf b = 4 ∧ 2139095040 < b % 2147483648) := by
  unfold kindOf
  split
  · exact .inl ⟨rfl, by assumption⟩
  · split
    · exact .inr (.inl ⟨rfl, by assumption, by assumption⟩)
    · split
      · exact .inr (.inr (.inl ⟨rfl, by omega, by assumption⟩))
      · split
        · exact .inr (.inr (.inr (.inl ⟨rfl, by assumption⟩)))
        · exact .inr (.inr (.inr (.inr ⟨rfl, by omega⟩)))

theorem num_infK (b : Nat) (hb : b < 4294967296) (w : World) : Calls Try.prog 44 #[.float .f32 b] w fun e w' => e = .returned (.bool (decide (b % 2147483648 = 2139095040))) ∧ w = w' := by
  refine (num_infinite b w).mono ?_
  rintro e w' ⟨rfl, hw⟩
  refine ⟨congrArg (fun x => Ending.returned (Value.bool x)) ?_, hw⟩
  rw [rd_parts hb]
  generalize decide (2147483648 ≤ b) = s
  generalize b % 2147483648 = r
  by_cases h1 : r < 8388608
  · rw [if_pos h1, decide_eq_false (by omega)]
  · rw [if_neg h1]
    by_cases h2 : r < 2139095040
    · rw [if_pos h2, decide_eq_false (by omega)]
    · rw [if_neg h2]
      by_cases h3 : r = 2139095040
      · rw [if_pos h3, decide_eq_true (by omega)]
      · rw [if_neg h3, decide_eq_false (by omega)]
set_option maxRecDepth 100000 in
theorem num_Kind (b : Nat) (hb : b < 4294967296) (w : World) : Calls Try.prog 26 #[.float .f32 b] w fun e w' => e = .returned (.int .i64 ((kindOf b : Nat) : Int)) ∧ w = w' := by
  have k1 := k_nan hb
  have k2 := k_zero hb
  have k4 := k_bits hb
  have hinf := fun w => num_infK b hb w
  have hbits := fun w => num_Bits b w
  have q1 : (FloatKind.f32.format.order b b != some .eq) = isNaN b := rfl
  rcases kind_cases b with ⟨e, h⟩ | ⟨e, h, h'⟩ | ⟨e, h, h'⟩ | ⟨e, h⟩ | ⟨e, h⟩

  · rw [decide_eq_false (by omega)] at k1
    rw [decide_eq_true (by omega)] at k2
    rw [decide_eq_false (by omega)] at hinf
    rw [decide_eq_true (by omega)] at k4
    rw [canon_of_num k1] at hbits
    rw [k1] at q1
    rw [e]
    clear h k1 e
    go_enter Try.func26, Try.ntmps26
    go_wp2_with fail
    go_ret
    exact ⟨rfl, rfl⟩
  · rw [decide_eq_false (by omega)] at k1
    rw [decide_eq_false (by omega)] at k2
    rw [decide_eq_false (by omega)] at hinf
    rw [decide_eq_true (by omega)] at k4
    rw [canon_of_num k1] at hbits
    rw [k1] at q1
    rw [e]
    clear h k1 e h'
    go_enter Try.func26, Try.ntmps26
    go_wp2_with fail
    refine (hinf _).mono ?_
    rintro e w' ⟨rfl, rfl⟩
    go_wp2_with fail
    refine (hbits _).mono ?_
    rintro e w' ⟨rfl, rfl⟩
    go_wp2_with fail
    go_ret
    exact ⟨rfl, rfl⟩
  · rw [decide_eq_false (by omega)] at k1
    rw [decide_eq_false (by omega)] at k2
    rw [decide_eq_false (by omega)] at hinf
    rw [decide_eq_false (by omega)] at k4
    rw [canon_of_num k1] at hbits
    rw [k1] at q1
    rw [e]
    clear h k1 e h'
    go_enter Try.func26, Try.ntmps26
    go_wp2_with fail
    refine (hinf _).mono ?_
    rintro e w' ⟨rfl, rfl⟩
    go_wp2_with fail
    refine (hbits _).mono ?_
    rintro e w' ⟨rfl, rfl⟩
    go_wp2_with fail
    go_ret
    exact ⟨rfl, rfl⟩
  · rw [decide_eq_false (by omega)] at k1
    rw [decide_eq_false (by omega)] at k2
    rw [decide_eq_true (by omega)] at hinf
    rw [decide_eq_false (by omega)] at k4
    rw [canon_of_num k1] at hbits
    rw [k1] at q1
    rw [e]
    clear h k1 e
    go_enter Try.func26, Try.ntmps26
    go_wp2_with fail
    refine (hinf _).mono ?_
    rintro e w' ⟨rfl, rfl⟩
    go_wp2_with fail
    go_ret
    exact ⟨rfl, rfl⟩
  · rw [decide_eq_true (by omega)] at k1
    rw [decide_eq_false (by omega)] at k2
    rw [decide_eq_false (by omega)] at hinf
    rw [decide_eq_false (by omega)] at k4
    rw [k1] at q1
    rw [e]
    clear h k1 e
    go_enter Try.func26, Try.ntmps26
    go_wp2_with fail
    go_ret
    exact ⟨rfl, rfl⟩

theorem andNot_top (b : Nat) (hb : b < 4294967296) : bits .andNot .u32 (b : Int) 2147483648 = ((b % 2147483648 : Nat) : Int) := by
  have hc : ~~~(BitVec.ofInt 32 2147483648) = BitVec.ofNat 32 (2 ^ 31 - 1) := by decide
  have hx : ((BitVec.ofInt 32 (b : Int)) &&& ~~~(BitVec.ofInt 32 2147483648)).toNat = b % 2147483648 := by
    rw [hc, BitVec.toNat_and, BitVec.toNat_ofNat, BitVec.ofInt_natCast, BitVec.toNat_ofNat, Nat.mod_eq_of_lt (show 2 ^ 31 - 1 < 2 ^ 32 by decide), Nat.and_two_pow_sub_one_eq_mod]
    omega
  have hw : bits .andNot .u32 (b : Int) 2147483648 = IntKind.u32.wrap (((BitVec.ofInt 32 (b : Int)) &&& ~~~(BitVec.ofInt 32 2147483648)).toNat : Int) := rfl
  rw [hw, hx]
  show ((b % 2147483648 : Nat) : Int) % 4294967296 = _
  omega
set_option maxRecDepth 100000 in
theorem ref_abs (b : Nat) (hb : b < 4294967296) (w : World) : Calls Try.prog 28 #[.float .f32 b] w fun e w' => e = .returned (.float .f32 (b % 2147483648)) ∧ w = w' := by
  have h := andNot_top b hb
  generalize b % 2147483648 = r at *
  go_enter Try.func28, Try.ntmps28
  go_wp2_with fail
  go_ret
  exact ⟨rfl, rfl⟩

/-- How many of the first k are of kind q. -/
def kc (q k : Nat) (xs : List Nat) : Nat := ((xs.take k).filter fun b => kindOf b == q).length
theorem kc_zero (q : Nat) (xs : List Nat) : kc q 0 xs = 0 := rfl
theorem kc_succ (q : Nat) {k : Nat} {xs : List Nat} (h : k < xs.length) : kc q (k + 1) xs = kc q k xs + if kindOf (xs.getD k 0) = q then 1 else 0 := by
  unfold kc
  rw [List.take_succ_eq_append_getElem h, List.filter_append, List.length_append]
  congr 1
  have e : xs.getD k 0 = xs[k] := by simp [List.getD_eq_getElem?_getD, h]
  rw [e]
  by_cases hq : kindOf xs[k] = q
  · rw [if_pos hq, List.filter_cons_of_pos (by simpa using hq)]; rfl
  · rw [if_neg hq, List.filter_cons_of_neg (by simpa using hq)]; rfl
theorem kc_le (q k : Nat) (xs : List Nat) : kc q k xs ≤ k := by
  unfold kc
  exact Nat.le_trans (List.length_filter_le _ _) (by rw [List.length_take]; omega)
theorem kc_all (k : Nat) (xs : List Nat) (h : k ≤ xs.length) : kc 0 k xs + kc 1 k xs + kc 2 k xs + kc 3 k xs + kc 4 k xs = k := by
  induction k with
  | zero => rfl
  | succ k ih =>
    have hk : k < xs.length := by omega
    have := ih (by omega)
    rw [kc_succ 0 hk, kc_succ 1 hk, kc_succ 2 hk, kc_succ 3 hk, kc_succ 4 hk]
    rcases kind_cases (xs.getD k 0) with ⟨e, _⟩ | ⟨e, _⟩ | ⟨e, _⟩ | ⟨e, _⟩ | ⟨e, _⟩ <;> rw [e] <;> simp <;> omega
/-- What Odd gives. -/
def oddV (xs : List Nat) : Value := .agg #[.int .i64 ((kc 0 xs.length xs : Nat) : Int), .int .i64 ((kc 1 xs.length xs : Nat) : Int), .int .i64 ((kc 2 xs.length xs : Nat) : Int), .int .i64 ((kc 3 xs.length xs : Nat) : Int), .int .i64 ((kc 4 xs.length xs : Nat) : Int)]

set_option maxRecDepth 100000 in
set_option maxHeartbeats 8000000 in
theorem scope_Odd (x y w h : Int) (b o n c : Nat) (xs : List Nat) (W : World) (hck : checkFrame x y w h n = 0) (hn : n ≤ 1000000) (hxs : xs.length = n) (hb : ∀ v ∈ xs, v < 4294967296) (hrd : Rd W b o xs) :
    Calls Try.prog 8 #[(.agg #[.int .i64 x, .int .i64 y, .int .i64 w, .int .i64 h, .slice (some ⟨b, o, none⟩) n c])] W fun e w' => e = .returned (.tuple #[oddV xs, .int .i64 0]) ∧ Below W.heap.size W w' := by
  have hnm : n ≤ maxLen := by unfold maxLen; omega
  have Hxs := Lib.hid hxs
  have Hb := Lib.hid hb
  clear hxs hb
  go_enter Try.func8, Try.ntmps8
  go_upto_region 1 with fail
  refine name_world ?_
  intro w0 hw0
  have x1 : Bx w0 W.heap.size 26 #[.int .i64 x, .int .i64 y, .int .i64 w, .int .i64 h, .slice (some ⟨b, o, none⟩) n c] := by rw [hw0]; exact (Bx.new _ _ _).alloc _
  have x2 : Bx w0 (W.heap.size + 1) 38 #[.int .i64 0, .int .i64 0, .int .i64 0, .int .i64 0, .int .i64 0] := by rw [hw0]; exact Bx.at _ (by simp)
  have B : Below W.heap.size W w0 := by rw [hw0]; exact bnew (bnew (Below.refl _ W))
  have hs0 : w0.heap.size = W.heap.size + 2 := by rw [hw0]; simp
  clear hw0
  obtain ⟨q1, f1, l1⟩ := x1.all
  go_wp2_with fail
  refine (frame_Check _ _ _ _ _ _ _ _ hnm).mono ?_
  rw [hck]
  rintro e w1 ⟨rfl, hb1⟩
  replace x1 := x1.keep hb1
  replace x2 := x2.keep hb1
  replace B := bcall B hb1
  have g5 := hb1.size
  rw [hs0] at g5
  clear hb1 q1 f1 l1 hck hs0
  go_upto_region 5 with fail
  refine name_world ?_
  intro w2 hw2
  have x5 : Bx w2 w1.heap.size 59 #[.int .i64 0, .int .i64 0, .int .i64 0, .int .i64 0, .int .i64 0] := by rw [hw2]; exact Bx.new _ _ _
  have hb2 : Below w1.heap.size w1 w2 := by rw [hw2]; exact bnew (Below.refl _ _)
  replace x1 := x1.keep hb2
  replace x2 := x2.keep hb2
  replace B := bcall B hb2
  have l5 := x2.lt
  clear hb2
  generalize w1.heap.size = p5 at *
  clear hw2
  obtain ⟨q1, f1, l1⟩ := x1.all
  go_wp2_with fail
  clear q1 f1 l1
  go_loopw [17] (fun iv wr => ∃ k : Nat, k ≤ n ∧ iv = .int .i64 (k : Int) ∧ Bx wr (W.heap.size + 1) 38 #[.int .i64 0, .int .i64 0, .int .i64 0, .int .i64 0, .int .i64 0] ∧ Bx wr p5 59 #[.int .i64 ((kc 0 k xs : Nat) : Int), .int .i64 ((kc 1 k xs : Nat) : Int), .int .i64 ((kc 2 k xs : Nat) : Int), .int .i64 ((kc 3 k xs : Nat) : Int), .int .i64 ((kc 4 k xs : Nat) : Int)] ∧ Below W.heap.size W wr) (fun iv _ => n - (intOf iv).toNat)
  case atStart => exact ⟨0, Nat.zero_le _, rfl, x2, x5, B⟩
  case round =>
    clear x1 x2 x5 B
    obtain ⟨k, hk, rfl, x2, x5, B⟩ := hrel
    by_cases hlt : k < n
    · have hki : (k : Int) < (n : Int) := by omega
      have hrw := hrd.keep B
      have c0 : wr.cell? ⟨b, o + k, none⟩ = some (.float .f32 (xs.getD k 0)) := hrw.cell k (by rw [Hxs.out]; exact hlt)
      have hv : xs.getD k 0 < 4294967296 := by
        have hl : k < xs.length := by rw [Hxs.out]; exact hlt
        rw [List.getD_eq_getElem?_getD, List.getElem?_eq_getElem hl]
        exact Hb.out _ (List.getElem_mem hl)
      have hs0 := kc_succ 0 (k := k) (xs := xs) (by rw [Hxs.out]; exact hlt)
      have hs1 := kc_succ 1 (k := k) (xs := xs) (by rw [Hxs.out]; exact hlt)
      have hs2 := kc_succ 2 (k := k) (xs := xs) (by rw [Hxs.out]; exact hlt)
      have hs3 := kc_succ 3 (k := k) (xs := xs) (by rw [Hxs.out]; exact hlt)
      have hs4 := kc_succ 4 (k := k) (xs := xs) (by rw [Hxs.out]; exact hlt)
      have hkd := fun w => num_Kind (xs.getD k 0) hv w
      have b0 := kc_le 0 k xs
      have b1 := kc_le 1 k xs
      have b2 := kc_le 2 k xs
      have b3 := kc_le 3 k xs
      have b4 := kc_le 4 k xs
      have hkc := kind_cases (xs.getD k 0)
      have l2 := x2.lt
      have bl := B.size
      have l5 := x5.lt
      clear hrw hv
      generalize xs.getD k 0 = v at *
      generalize kindOf v = q at *
      generalize hc0 : kc 0 k xs = n0 at *
      generalize hc1 : kc 1 k xs = n1 at *
      generalize hc2 : kc 2 k xs = n2 at *
      generalize hc3 : kc 3 k xs = n3 at *
      generalize hc4 : kc 4 k xs = n4 at *
      clear hc0 hc1 hc2 hc3 hc4

      rcases hkc with ⟨rfl, _⟩ | ⟨rfl, _, _⟩ | ⟨rfl, _, _⟩ | ⟨rfl, _⟩ | ⟨rfl, _⟩
      · have x6 := x5.set 0 (.int .i64 ((n0 : Int) + 1))
        have B2 : Below W.heap.size W (wr.setCell ⟨p5, 0, none⟩ (.int .i64 ((n0 : Int) + 1))) := bput (by omega) B
        have x2b := x2.other ⟨p5, 0, none⟩ (.int .i64 ((n0 : Int) + 1)) (by show W.heap.size + 1 ≠ p5; omega)
        obtain ⟨q5, f5, _⟩ := x5.all
        have H := Lib.hid (And.intro x6 (And.intro B2 (And.intro x2b (And.intro hs0 (And.intro hs1 (And.intro hs2 (And.intro hs3 hs4)))))))
        clear x5 x6 B2 B x2 x2b hs0 hs1 hs2 hs3 hs4
        go_wp2_with fail
        refine (hkd _).mono ?_
        rintro e w' ⟨rfl, rfl⟩
        go_wp2_with fail
        go_roundw
        case rel =>
          obtain ⟨x6, B2, x2b, hs0, hs1, hs2, hs3, hs4⟩ := H.out
          refine ⟨k + 1, hlt, by go_num, x2b, ?_, B2⟩
          rw [hs0, hs1, hs2, hs3, hs4]
          simpa using x6
        case measure => simp [intOf] <;> omega
      · have x6 := x5.set 1 (.int .i64 ((n1 : Int) + 1))
        have B2 : Below W.heap.size W (wr.setCell ⟨p5, 1, none⟩ (.int .i64 ((n1 : Int) + 1))) := bput (by omega) B
        have x2b := x2.other ⟨p5, 1, none⟩ (.int .i64 ((n1 : Int) + 1)) (by show W.heap.size + 1 ≠ p5; omega)
        obtain ⟨q5, f5, _⟩ := x5.all
        have H := Lib.hid (And.intro x6 (And.intro B2 (And.intro x2b (And.intro hs0 (And.intro hs1 (And.intro hs2 (And.intro hs3 hs4)))))))
        clear x5 x6 B2 B x2 x2b hs0 hs1 hs2 hs3 hs4
        go_wp2_with fail
        refine (hkd _).mono ?_
        rintro e w' ⟨rfl, rfl⟩
        go_wp2_with fail
        go_roundw
        case rel =>
          obtain ⟨x6, B2, x2b, hs0, hs1, hs2, hs3, hs4⟩ := H.out
          refine ⟨k + 1, hlt, by go_num, x2b, ?_, B2⟩
          rw [hs0, hs1, hs2, hs3, hs4]
          simpa using x6
        case measure => simp [intOf] <;> omega
      · have x6 := x5.set 2 (.int .i64 ((n2 : Int) + 1))
        have B2 : Below W.heap.size W (wr.setCell ⟨p5, 2, none⟩ (.int .i64 ((n2 : Int) + 1))) := bput (by omega) B
        have x2b := x2.other ⟨p5, 2, none⟩ (.int .i64 ((n2 : Int) + 1)) (by show W.heap.size + 1 ≠ p5; omega)
        obtain ⟨q5, f5, _⟩ := x5.all
        have H := Lib.hid (And.intro x6 (And.intro B2 (And.intro x2b (And.intro hs0 (And.intro hs1 (And.intro hs2 (And.intro hs3 hs4)))))))
        clear x5 x6 B2 B x2 x2b hs0 hs1 hs2 hs3 hs4
        go_wp2_with fail
        refine (hkd _).mono ?_
        rintro e w' ⟨rfl, rfl⟩
        go_wp2_with fail
        go_roundw
        case rel =>
          obtain ⟨x6, B2, x2b, hs0, hs1, hs2, hs3, hs4⟩ := H.out
          refine ⟨k + 1, hlt, by go_num, x2b, ?_, B2⟩
          rw [hs0, hs1, hs2, hs3, hs4]
          simpa using x6
        case measure => simp [intOf] <;> omega
      · have x6 := x5.set 3 (.int .i64 ((n3 : Int) + 1))
        have B2 : Below W.heap.size W (wr.setCell ⟨p5, 3, none⟩ (.int .i64 ((n3 : Int) + 1))) := bput (by omega) B
        have x2b := x2.other ⟨p5, 3, none⟩ (.int .i64 ((n3 : Int) + 1)) (by show W.heap.size + 1 ≠ p5; omega)
        obtain ⟨q5, f5, _⟩ := x5.all
        have H := Lib.hid (And.intro x6 (And.intro B2 (And.intro x2b (And.intro hs0 (And.intro hs1 (And.intro hs2 (And.intro hs3 hs4)))))))
        clear x5 x6 B2 B x2 x2b hs0 hs1 hs2 hs3 hs4
        go_wp2_with fail
        refine (hkd _).mono ?_
        rintro e w' ⟨rfl, rfl⟩
        go_wp2_with fail
        go_roundw
        case rel =>
          obtain ⟨x6, B2, x2b, hs0, hs1, hs2, hs3, hs4⟩ := H.out
          refine ⟨k + 1, hlt, by go_num, x2b, ?_, B2⟩
          rw [hs0, hs1, hs2, hs3, hs4]
          simpa using x6
        case measure => simp [intOf] <;> omega
      · have x6 := x5.set 4 (.int .i64 ((n4 : Int) + 1))
        have B2 : Below W.heap.size W (wr.setCell ⟨p5, 4, none⟩ (.int .i64 ((n4 : Int) + 1))) := bput (by omega) B
        have x2b := x2.other ⟨p5, 4, none⟩ (.int .i64 ((n4 : Int) + 1)) (by show W.heap.size + 1 ≠ p5; omega)
        obtain ⟨q5, f5, _⟩ := x5.all
        have H := Lib.hid (And.intro x6 (And.intro B2 (And.intro x2b (And.intro hs0 (And.intro hs1 (And.intro hs2 (And.intro hs3 hs4)))))))
        clear x5 x6 B2 B x2 x2b hs0 hs1 hs2 hs3 hs4
        go_wp2_with fail
        refine (hkd _).mono ?_
        rintro e w' ⟨rfl, rfl⟩
        go_wp2_with fail
        go_roundw
        case rel =>
          obtain ⟨x6, B2, x2b, hs0, hs1, hs2, hs3, hs4⟩ := H.out
          refine ⟨k + 1, hlt, by go_num, x2b, ?_, B2⟩
          rw [hs0, hs1, hs2, hs3, hs4]
          simpa using x6
        case measure => simp [intOf] <;> omega
    · have hki : ¬ (k : Int) < (n : Int) := by omega
      obtain rfl : k = n := by omega
      obtain ⟨q5, f5, l5⟩ := x5.all
      obtain ⟨q2, f2, l2⟩ := x2.all
      have B2 := B
      have ho : oddV xs = .agg #[.int .i64 ((kc 0 k xs : Nat) : Int), .int .i64 ((kc 1 k xs : Nat) : Int), .int .i64 ((kc 2 k xs : Nat) : Int), .int .i64 ((kc 3 k xs : Nat) : Int), .int .i64 ((kc 4 k xs : Nat) : Int)] := by unfold oddV; rw [Hxs.out]
      have HO := Lib.hid ho
      clear ho x5 x2 B
      go_wp2_with fail
      refine bodyPost_ret (v := .tuple #[.agg #[.int .i64 ((kc 0 k xs : Nat) : Int), .int .i64 ((kc 1 k xs : Nat) : Int), .int .i64 ((kc 2 k xs : Nat) : Int), .int .i64 ((kc 3 k xs : Nat) : Int), .int .i64 ((kc 4 k xs : Nat) : Int)], .int .i64 0]) (by simp [results, Try.results8, go_sem, q2]) rfl ⟨by rw [HO.out], ?_⟩
      repeat (refine bput (by omega) ?_)
      exact B2

set_option maxRecDepth 100000 in
set_option maxHeartbeats 8000000 in
theorem ref_Odd (x y w h : Int) (b o n c : Nat) (xs : List Nat) (W : World) (hn : n ≤ 1000000) (hxs : xs.length = n) (hb : ∀ v ∈ xs, v < 4294967296) (hrd : Rd W b o xs) :
    Calls Try.prog 9 #[(.agg #[.int .i64 x, .int .i64 y, .int .i64 w, .int .i64 h, .slice (some ⟨b, o, none⟩) n c])] W fun e w' => e = .returned (oddV xs) ∧ Below W.heap.size W w' := by
  have Hxs := Lib.hid hxs
  have Hb := Lib.hid hb
  clear hxs hb
  go_enter Try.func9, Try.ntmps9
  go_upto_region 2 with fail
  refine name_world ?_
  intro w0 hw0
  have x1 : Bx w0 W.heap.size 26 #[.int .i64 x, .int .i64 y, .int .i64 w, .int .i64 h, .slice (some ⟨b, o, none⟩) n c] := by rw [hw0]; exact ((Bx.new _ _ _).alloc _).alloc _
  have x2 : Bx w0 (W.heap.size + 1) 38 #[.int .i64 0, .int .i64 0, .int .i64 0, .int .i64 0, .int .i64 0] := by rw [hw0]; exact Bx.alloc (Bx.at _ (by simp)) _
  have x5 : Bx w0 (W.heap.size + 2) 38 #[.int .i64 0, .int .i64 0, .int .i64 0, .int .i64 0, .int .i64 0] := by rw [hw0]; exact Bx.at _ (by simp)
  have B : Below W.heap.size W w0 := by rw [hw0]; exact bnew (bnew (bnew (Below.refl _ W)))
  clear hw0
  obtain ⟨q1, f1, l1⟩ := x1.all
  go_wp2_with fail
  clear q1 f1 l1 x1
  go_loopw [9] (fun iv wr => ∃ k : Nat, k ≤ n ∧ iv = .int .i64 (k : Int) ∧ Bx wr (W.heap.size + 1) 38 #[.int .i64 0, .int .i64 0, .int .i64 0, .int .i64 0, .int .i64 0] ∧ Bx wr (W.heap.size + 2) 38 #[.int .i64 ((kc 0 k xs : Nat) : Int), .int .i64 ((kc 1 k xs : Nat) : Int), .int .i64 ((kc 2 k xs : Nat) : Int), .int .i64 ((kc 3 k xs : Nat) : Int), .int .i64 ((kc 4 k xs : Nat) : Int)] ∧ Below W.heap.size W wr) (fun iv _ => n - (intOf iv).toNat)
  case atStart => exact ⟨0, Nat.zero_le _, rfl, x2, x5, B⟩
  case round =>
    clear x2 x5 B
    obtain ⟨k, hk, rfl, x2, x5, B⟩ := hrel
    by_cases hlt : k < n
    · have hki : (k : Int) < (n : Int) := by omega
      have hrw := hrd.keep B
      have c0 : wr.cell? ⟨b, o + k, none⟩ = some (.float .f32 (xs.getD k 0)) := hrw.cell k (by rw [Hxs.out]; exact hlt)
      have hv : xs.getD k 0 < 4294967296 := by
        have hl : k < xs.length := by rw [Hxs.out]; exact hlt
        rw [List.getD_eq_getElem?_getD, List.getElem?_eq_getElem hl]
        exact Hb.out _ (List.getElem_mem hl)
      have hs0 := kc_succ 0 (k := k) (xs := xs) (by rw [Hxs.out]; exact hlt)
      have hs1 := kc_succ 1 (k := k) (xs := xs) (by rw [Hxs.out]; exact hlt)
      have hs2 := kc_succ 2 (k := k) (xs := xs) (by rw [Hxs.out]; exact hlt)
      have hs3 := kc_succ 3 (k := k) (xs := xs) (by rw [Hxs.out]; exact hlt)
      have hs4 := kc_succ 4 (k := k) (xs := xs) (by rw [Hxs.out]; exact hlt)
      have b0 := kc_le 0 k xs
      have b1 := kc_le 1 k xs
      have b2 := kc_le 2 k xs
      have b3 := kc_le 3 k xs
      have b4 := kc_le 4 k xs
      have hkc := kind_cases (xs.getD k 0)
      have k1 := k_nan hv
      have k2 := k_zero hv
      have k3 := k_num hv
      have k4 := fun (h : xs.getD k 0 % 2147483648 < 2139095040) => k_small h
      have hnum := fun w => ref_IsNumber (xs.getD k 0) w
      have habs := fun w => ref_abs (xs.getD k 0) hv w
      have q1 : (FloatKind.f32.format.order (xs.getD k 0) (xs.getD k 0) != some .eq) = isNaN (xs.getD k 0) := rfl
      have l2 := x2.lt
      have bl := B.size
      have l5 := x5.lt
      have lb := hrw.lt
      clear hrw hv
      generalize xs.getD k 0 = v at *
      generalize kindOf v = q at *
      generalize hc0 : kc 0 k xs = n0 at *
      generalize hc1 : kc 1 k xs = n1 at *
      generalize hc2 : kc 2 k xs = n2 at *
      generalize hc3 : kc 3 k xs = n3 at *
      generalize hc4 : kc 4 k xs = n4 at *
      clear hc0 hc1 hc2 hc3 hc4
      generalize hr : v % 2147483648 = r at *
      have Hr := Lib.hid hr
      clear hr
      rcases hkc with ⟨rfl, h⟩ | ⟨rfl, h, h'⟩ | ⟨rfl, h, h'⟩ | ⟨rfl, h⟩ | ⟨rfl, h⟩
      · rw [decide_eq_false (by omega)] at k1
        rw [decide_eq_true (by omega)] at k2
        rw [decide_eq_true (by omega)] at k3
        rw [k1] at q1
        rw [k3] at hnum
        clear k4
        have HS := Lib.hid (And.intro hs0 (And.intro hs1 (And.intro hs2 (And.intro hs3 hs4))))
        clear hs0 hs1 hs2 hs3 hs4 h k1 k3
        obtain ⟨q5, f5, _⟩ := x5.all
        have x6 := x5.set 0 (.int .i64 ((n0 : Int) + 1))
        have B2 : Below W.heap.size W (wr.setCell ⟨W.heap.size + 2, 0, none⟩ (.int .i64 ((n0 : Int) + 1))) := bput (by omega) B
        have x2b := x2.other ⟨W.heap.size + 2, 0, none⟩ (.int .i64 ((n0 : Int) + 1)) (by show W.heap.size + 1 ≠ W.heap.size + 2; omega)
        have H := Lib.hid (And.intro x6 (And.intro B2 x2b))
        clear x5 x6 B2 B x2 x2b
        go_wp2_with fail
        go_roundw
        case rel =>
          obtain ⟨x6, B2, x2b⟩ := H.out
          obtain ⟨hs0, hs1, hs2, hs3, hs4⟩ := HS.out
          refine ⟨k + 1, hlt, by go_num, x2b, ?_, B2⟩
          rw [hs0, hs1, hs2, hs3, hs4]
          simpa using x6
        case measure => simp [intOf] <;> omega
      · rw [decide_eq_false (by omega)] at k1
        rw [decide_eq_false (by omega)] at k2
        rw [decide_eq_true (by omega)] at k3
        rw [k1] at q1
        rw [k3] at hnum
        replace k4 := k4 (by omega)
        rw [decide_eq_true (by omega)] at k4
        have HS := Lib.hid (And.intro hs0 (And.intro hs1 (And.intro hs2 (And.intro hs3 hs4))))
        clear hs0 hs1 hs2 hs3 hs4 h k1 k3 h'
        go_wp2_with fail
        refine (hnum _).mono ?_
        rintro e w5 ⟨rfl, hb5⟩
        replace x2 := x2.keep hb5
        replace x5 := x5.keep hb5
        replace B := bcall B hb5
        have l5 := x5.lt
        clear hb5 c0 lb
        go_wp2_with fail
        refine (habs _).mono ?_
        rintro e w6 ⟨rfl, rfl⟩
        obtain ⟨q5, f5, _⟩ := x5.all
        have x6 := x5.set 1 (.int .i64 ((n1 : Int) + 1))
        have B2 : Below W.heap.size W (w5.setCell ⟨W.heap.size + 2, 1, none⟩ (.int .i64 ((n1 : Int) + 1))) := bput (by omega) B
        have x2b := x2.other ⟨W.heap.size + 2, 1, none⟩ (.int .i64 ((n1 : Int) + 1)) (by show W.heap.size + 1 ≠ W.heap.size + 2; omega)
        have H := Lib.hid (And.intro x6 (And.intro B2 x2b))
        clear x5 x6 B2 B x2 x2b
        go_wp2_with fail
        go_roundw
        case rel =>
          obtain ⟨x6, B2, x2b⟩ := H.out
          obtain ⟨hs0, hs1, hs2, hs3, hs4⟩ := HS.out
          refine ⟨k + 1, hlt, by go_num, x2b, ?_, B2⟩
          rw [hs0, hs1, hs2, hs3, hs4]
          simpa using x6
        case measure => simp [intOf] <;> omega
      · rw [decide_eq_false (by omega)] at k1
        rw [decide_eq_false (by omega)] at k2
        rw [decide_eq_true (by omega)] at k3
        rw [k1] at q1
        rw [k3] at hnum
        replace k4 := k4 (by omega)
        rw [decide_eq_false (by omega)] at k4
        have HS := Lib.hid (And.intro hs0 (And.intro hs1 (And.intro hs2 (And.intro hs3 hs4))))
        clear hs0 hs1 hs2 hs3 hs4 h k1 k3 h'
        go_wp2_with fail
        refine (hnum _).mono ?_
        rintro e w5 ⟨rfl, hb5⟩
        replace x2 := x2.keep hb5
        replace x5 := x5.keep hb5
        replace B := bcall B hb5
        have l5 := x5.lt
        clear hb5 c0 lb
        go_wp2_with fail
        refine (habs _).mono ?_
        rintro e w6 ⟨rfl, rfl⟩
        obtain ⟨q5, f5, _⟩ := x5.all
        have x6 := x5.set 2 (.int .i64 ((n2 : Int) + 1))
        have B2 : Below W.heap.size W (w5.setCell ⟨W.heap.size + 2, 2, none⟩ (.int .i64 ((n2 : Int) + 1))) := bput (by omega) B
        have x2b := x2.other ⟨W.heap.size + 2, 2, none⟩ (.int .i64 ((n2 : Int) + 1)) (by show W.heap.size + 1 ≠ W.heap.size + 2; omega)
        have H := Lib.hid (And.intro x6 (And.intro B2 x2b))
        clear x5 x6 B2 B x2 x2b
        go_wp2_with fail
        go_roundw
        case rel =>
          obtain ⟨x6, B2, x2b⟩ := H.out
          obtain ⟨hs0, hs1, hs2, hs3, hs4⟩ := HS.out
          refine ⟨k + 1, hlt, by go_num, x2b, ?_, B2⟩
          rw [hs0, hs1, hs2, hs3, hs4]
          simpa using x6
        case measure => simp [intOf] <;> omega
      · rw [decide_eq_false (by omega)] at k1
        rw [decide_eq_false (by omega)] at k2
        rw [decide_eq_false (by omega)] at k3
        rw [k1] at q1
        rw [k3] at hnum
        clear k4
        have HS := Lib.hid (And.intro hs0 (And.intro hs1 (And.intro hs2 (And.intro hs3 hs4))))
        clear hs0 hs1 hs2 hs3 hs4 h k1 k3
        go_wp2_with fail
        refine (hnum _).mono ?_
        rintro e w5 ⟨rfl, hb5⟩
        replace x2 := x2.keep hb5
        replace x5 := x5.keep hb5
        replace B := bcall B hb5
        have l5 := x5.lt
        clear hb5 c0 lb
        obtain ⟨q5, f5, _⟩ := x5.all
        have x6 := x5.set 3 (.int .i64 ((n3 : Int) + 1))
        have B2 : Below W.heap.size W (w5.setCell ⟨W.heap.size + 2, 3, none⟩ (.int .i64 ((n3 : Int) + 1))) := bput (by omega) B
        have x2b := x2.other ⟨W.heap.size + 2, 3, none⟩ (.int .i64 ((n3 : Int) + 1)) (by show W.heap.size + 1 ≠ W.heap.size + 2; omega)
        have H := Lib.hid (And.intro x6 (And.intro B2 x2b))
        clear x5 x6 B2 B x2 x2b
        go_wp2_with fail
        go_roundw
        case rel =>
          obtain ⟨x6, B2, x2b⟩ := H.out
          obtain ⟨hs0, hs1, hs2, hs3, hs4⟩ := HS.out
          refine ⟨k + 1, hlt, by go_num, x2b, ?_, B2⟩
          rw [hs0, hs1, hs2, hs3, hs4]
          simpa using x6
        case measure => simp [intOf] <;> omega
      · rw [decide_eq_true (by omega)] at k1
        rw [decide_eq_false (by omega)] at k2
        rw [decide_eq_false (by omega)] at k3
        rw [k1] at q1
        rw [k3] at hnum
        clear k4
        have HS := Lib.hid (And.intro hs0 (And.intro hs1 (And.intro hs2 (And.intro hs3 hs4))))
        clear hs0 hs1 hs2 hs3 hs4 h k1 k3
        obtain ⟨q5, f5, _⟩ := x5.all
        have x6 := x5.set 4 (.int .i64 ((n4 : Int) + 1))
        have B2 : Below W.heap.size W (wr.setCell ⟨W.heap.size + 2, 4, none⟩ (.int .i64 ((n4 : Int) + 1))) := bput (by omega) B
        have x2b := x2.other ⟨W.heap.size + 2, 4, none⟩ (.int .i64 ((n4 : Int) + 1)) (by show W.heap.size + 1 ≠ W.heap.size + 2; omega)
        have H := Lib.hid (And.intro x6 (And.intro B2 x2b))
        clear x5 x6 B2 B x2 x2b
        go_wp2_with fail
        go_roundw
        case rel =>
          obtain ⟨x6, B2, x2b⟩ := H.out
          obtain ⟨hs0, hs1, hs2, hs3, hs4⟩ := HS.out
          refine ⟨k + 1, hlt, by go_num, x2b, ?_, B2⟩
          rw [hs0, hs1, hs2, hs3, hs4]
          simpa using x6
        case measure => simp [intOf] <;> omega
    · have hki : ¬ (k : Int) < (n : Int) := by omega
      obtain rfl : k = n := by omega
      obtain ⟨q5, f5, l5⟩ := x5.all
      obtain ⟨q2, f2, l2⟩ := x2.all
      have B2 := B
      have ho : oddV xs = .agg #[.int .i64 ((kc 0 k xs : Nat) : Int), .int .i64 ((kc 1 k xs : Nat) : Int), .int .i64 ((kc 2 k xs : Nat) : Int), .int .i64 ((kc 3 k xs : Nat) : Int), .int .i64 ((kc 4 k xs : Nat) : Int)] := by unfold oddV; rw [Hxs.out]
      have HO := Lib.hid ho
      clear ho x5 x2 B
      go_wp2_with fail
      refine bodyPost_ret (v := .agg #[.int .i64 ((kc 0 k xs : Nat) : Int), .int .i64 ((kc 1 k xs : Nat) : Int), .int .i64 ((kc 2 k xs : Nat) : Int), .int .i64 ((kc 3 k xs : Nat) : Int), .int .i64 ((kc 4 k xs : Nat) : Int)]) (by simp [results, Try.results9, go_sem, q2, q5]) rfl ⟨by rw [HO.out], ?_⟩
      repeat (refine bput (by omega) ?_)
      exact B2

end Go.Proofs.Ytlfcedecobebmaa
