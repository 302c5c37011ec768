/- The order of singles, walked: num.place, dyeref2.place, Apart, ApartOf, scope.less and the closure of dyeref1.inOrder. -/
import Derived.Test.YtlfcedecobebmaaExP
import Derived.Test.YtlfcedecobebmaaStB
import Derived.Test.YtlfcedecobebmaaSc
namespace Go.Proofs.Ytlfcedecobebmaa
open Go.RowKit

theorem and_i64 (b m : Nat) (hb : b < 4294967296) : bits .and .i64 (b : Int) (m : Int) = ((b &&& m % 2 ^ 64 : Nat) : Int) := by
  have e : bits .and .i64 (b : Int) (m : Int) = IntKind.i64.wrap ((BitVec.ofInt 64 (b : Int) &&& BitVec.ofInt 64 (m : Int)).toNat : Nat) := rfl
  rw [e, BitVec.toNat_and, BitVec.toNat_ofInt, BitVec.toNat_ofInt, IntKind.wrap_i64]
  have h1 : ((b : Int) % ((2 ^ 64 : Nat) : Int)).toNat = b := by omega
  have h2 : ((m : Int) % ((2 ^ 64 : Nat) : Int)).toNat = m % 2 ^ 64 := by omega
  rw [h1, h2]
  have h3 : b &&& m % 2 ^ 64 ≤ b := Nat.and_le_left
  generalize b &&& m % 2 ^ 64 = q at *
  omega
theorem and_low (b : Nat) (hb : b < 4294967296) : bits .and .i64 (b : Int) 2147483647 = ((b % 2147483648 : Nat) : Int) := by
  have := and_i64 b 2147483647 hb
  rw [show 2147483647 % 2 ^ 64 = 2 ^ 31 - 1 from rfl, Nat.and_two_pow_sub_one_eq_mod] at this
  exact this
theorem and_top (b : Nat) (hb : b < 4294967296) : (bits .and .i64 (b : Int) 2147483648 != 0) = decide (2147483648 ≤ b) := by
  have := and_i64 b 2147483648 hb
  rw [show 2147483648 % 2 ^ 64 = 2 ^ 31 from rfl] at this
  replace this : bits .and .i64 (b : Int) 2147483648 = ((b &&& 2 ^ 31 : Nat) : Int) := this
  rw [this]
  have ht : b.testBit 31 = decide (2147483648 ≤ b) := by
    rw [Nat.testBit_eq_decide_div_mod_eq, decide_eq_decide]
    omega
  cases h : decide (2147483648 ≤ b) with
  | false =>
    rw [h] at ht
    have : b &&& 2 ^ 31 = 0 := by
      refine Nat.eq_of_testBit_eq fun i => ?_
      rw [Nat.testBit_and, Nat.testBit_two_pow, Nat.zero_testBit]
      by_cases hi : 31 = i
      · subst hi; rw [ht]; rfl
      · rw [decide_eq_false hi, Bool.and_false]
    rw [this]; rfl
  | true =>
    rw [h] at ht
    have : b &&& 2 ^ 31 = 2 ^ 31 := by
      refine Nat.eq_of_testBit_eq fun i => ?_
      rw [Nat.testBit_and, Nat.testBit_two_pow]
      by_cases hi : 31 = i
      · subst hi; rw [ht]; rfl
      · rw [decide_eq_false hi, Bool.and_false]
    rw [this]; rfl

set_option maxRecDepth 100000 in
theorem num_place (b : Nat) (hb : b < 4294967296) (w : World) : Calls Try.prog 55 #[.float .f32 b] w fun e w' => e = .returned (.int .i64 (plc b)) ∧ w = w' := by
  have h1 := and_top b hb
  have h2 := and_low b hb
  by_cases h : 2147483648 ≤ b
  · rw [decide_eq_true h] at h1
    have h3 : b % 2147483648 = b - 2147483648 := by omega
    rw [h3] at h2
    obtain ⟨r, hr⟩ : ∃ r, r = b - 2147483648 := ⟨_, rfl⟩
    rw [← hr] at h2
    have hp : plc b = -(r : Int) - 1 := by unfold plc; rw [if_pos h]; omega
    rw [hp]
    have hr2 : (r : Int) < 2147483648 := by omega
    clear hr hp h3
    go_enter Try.func55, Try.ntmps55
    go_wp2_with fail
    go_ret
    exact ⟨rfl, rfl⟩
  · rw [decide_eq_false h] at h1
    have hp : plc b = (b : Int) := by unfold plc; rw [if_neg h]
    rw [hp]
    go_enter Try.func55, Try.ntmps55
    go_wp2_with fail
    go_ret
    exact ⟨rfl, rfl⟩
set_option maxRecDepth 100000 in
theorem ref_place (b : Nat) (hb : b < 4294967296) (w : World) : Calls Try.prog 60 #[.float .f32 b] w fun e w' => e = .returned (.int .i64 (plc b)) ∧ w = w' := by
  by_cases h : 2147483648 ≤ b
  · have hp : plc b = 2147483647 - (b : Int) := by unfold plc; rw [if_pos h]
    have hz : (2147483648 : Int) ≤ (b : Int) := by omega
    rw [hp]
    go_enter Try.func60, Try.ntmps60
    go_wp2_with fail
    go_ret
    exact ⟨rfl, rfl⟩
  · have hp : plc b = (b : Int) := by unfold plc; rw [if_neg h]
    have hz : ¬ (2147483648 : Int) ≤ (b : Int) := by omega
    rw [hp]
    go_enter Try.func60, Try.ntmps60
    go_wp2_with fail
    go_ret
    exact ⟨rfl, rfl⟩

set_option maxRecDepth 100000 in
theorem num_Apart (a b : Nat) (ha : a < 4294967296) (hb : b < 4294967296) (na : isNaN a = false) (nb : isNaN b = false) (w : World) : Calls Try.prog 40 #[.float .f32 a, .float .f32 b] w fun e w' => e = .returned (.tuple #[.int .i64 (plc b - plc a), .bool true]) ∧ w = w' := by
  have q1 : (FloatKind.f32.format.order a a != some .eq) = false := na
  have q2 : (FloatKind.f32.format.order b b != some .eq) = false := nb
  have p1 := fun w => num_place a ha w
  have p2 := fun w => num_place b hb w
  have b1 := plc_bd ha
  have b2 := plc_bd hb
  generalize plc a = x at *
  generalize plc b = y at *
  go_enter Try.func40, Try.ntmps40
  go_wp2_with fail
  refine (p2 _).mono ?_
  rintro e w' ⟨rfl, rfl⟩
  go_wp2_with fail
  refine (p1 _).mono ?_
  rintro e w' ⟨rfl, rfl⟩
  go_wp2_with fail
  go_ret2
  exact ⟨rfl, rfl⟩
set_option maxRecDepth 100000 in
theorem ref_ApartOf (a b : Nat) (ha : a < 4294967296) (hb : b < 4294967296) (na : isNaN a = false) (nb : isNaN b = false) (w : World) : Calls Try.prog 50 #[.float .f32 a, .float .f32 b] w fun e w' => e = .returned (.tuple #[.int .i64 (plc b - plc a), .bool true]) ∧ w = w' := by
  have q1 : (FloatKind.f32.format.order a a != some .eq) = false := na
  have q2 : (FloatKind.f32.format.order b b != some .eq) = false := nb
  have p1 := fun w => ref_place a ha w
  have p2 := fun w => ref_place b hb w
  have b1 := plc_bd ha
  have b2 := plc_bd hb
  generalize plc a = x at *
  generalize plc b = y at *
  go_enter Try.func50, Try.ntmps50
  go_wp2_with fail
  refine (p2 _).mono ?_
  rintro e w' ⟨rfl, rfl⟩
  go_wp2_with fail
  refine (p1 _).mono ?_
  rintro e w' ⟨rfl, rfl⟩
  go_wp2_with fail
  go_ret2
  exact ⟨rfl, rfl⟩

set_option maxRecDepth 100000 in
theorem scope_less (a b : Nat) (ha : a < 4294967296) (hb : b < 4294967296) (w : World) : Calls Try.prog 21 #[.float .f32 a, .float .f32 b] w fun e w' => e = .returned (.int .i64 (lessP a b)) ∧ w = w' := by
  cases na : isNaN a <;> cases nb : isNaN b
  · have hl : lessP a b = plc a - plc b := by unfold lessP; rw [na, nb]; rfl
    rw [hl]
    have hap := fun w => num_Apart b a hb ha nb na w
    have q1 : (FloatKind.f32.format.order a a != some .eq) = false := na
    have q2 : (FloatKind.f32.format.order b b != some .eq) = false := nb
    generalize plc a - plc b = x at *
    go_enter Try.func21, Try.ntmps21
    go_wp2_with fail
    refine (hap _).mono ?_
    rintro e w' ⟨rfl, rfl⟩
    go_wp2_with fail
    go_ret
    exact ⟨rfl, rfl⟩
  · have hl : lessP a b = -1 := by unfold lessP; rw [na, nb]; rfl
    rw [hl]
    have q1 : (FloatKind.f32.format.order a a != some .eq) = false := na
    have q2 : (FloatKind.f32.format.order b b != some .eq) = true := nb
    go_enter Try.func21, Try.ntmps21
    go_wp2_with fail
    go_ret
    exact ⟨rfl, rfl⟩
  · have hl : lessP a b = 1 := by unfold lessP; rw [na, nb]; rfl
    rw [hl]
    have q1 : (FloatKind.f32.format.order a a != some .eq) = true := na
    have q2 : (FloatKind.f32.format.order b b != some .eq) = false := nb
    go_enter Try.func21, Try.ntmps21
    go_wp2_with fail
    go_ret
    exact ⟨rfl, rfl⟩
  · have hl : lessP a b = 0 := by unfold lessP; rw [na, nb]; rfl
    rw [hl]
    have q1 : (FloatKind.f32.format.order a a != some .eq) = true := na
    have q2 : (FloatKind.f32.format.order b b != some .eq) = true := nb
    go_enter Try.func21, Try.ntmps21
    go_wp2_with fail
    go_ret
    exact ⟨rfl, rfl⟩

set_option maxRecDepth 100000 in
theorem ref_less (a b : Nat) (ha : a < 4294967296) (hb : b < 4294967296) (w : World) : Calls Try.prog 49 #[.float .f32 a, .float .f32 b] w fun e w' => e = .returned (.int .i64 (lessR a b)) ∧ w = w' := by
  cases na : isNaN a <;> cases nb : isNaN b
  · have hl : lessR a b = if plc b - plc a > 0 then -1 else if plc b - plc a < 0 then 1 else 0 := by unfold lessR; rw [na, nb]; rfl
    rw [hl]
    have hap := fun w => ref_ApartOf a b ha hb na nb w
    have q1 : (FloatKind.f32.format.order a a != some .eq) = false := na
    have q2 : (FloatKind.f32.format.order b b != some .eq) = false := nb
    generalize plc b - plc a = x at *
    by_cases h1 : x > 0
    · rw [if_pos h1]
      have h1' : 0 < x := h1
      go_enter Try.func49, Try.ntmps49
      go_wp2_with fail
      refine (hap _).mono ?_
      rintro e w' ⟨rfl, rfl⟩
      go_wp2_with fail
      go_ret
      exact ⟨rfl, rfl⟩
    · rw [if_neg h1]
      have h1' : ¬ 0 < x := h1
      by_cases h2 : x < 0
      · rw [if_pos h2]
        go_enter Try.func49, Try.ntmps49
        go_wp2_with fail
        refine (hap _).mono ?_
        rintro e w' ⟨rfl, rfl⟩
        go_wp2_with fail
        go_ret
        exact ⟨rfl, rfl⟩
      · rw [if_neg h2]
        go_enter Try.func49, Try.ntmps49
        go_wp2_with fail
        refine (hap _).mono ?_
        rintro e w' ⟨rfl, rfl⟩
        go_wp2_with fail
        go_ret
        exact ⟨rfl, rfl⟩
  · have hl : lessR a b = -1 := by unfold lessR; rw [na, nb]; rfl
    rw [hl]
    have q1 : (FloatKind.f32.format.order a a != some .eq) = false := na
    have q2 : (FloatKind.f32.format.order b b != some .eq) = true := nb
    go_enter Try.func49, Try.ntmps49
    go_wp2_with fail
    go_ret
    exact ⟨rfl, rfl⟩
  · have hl : lessR a b = 1 := by unfold lessR; rw [na, nb]; rfl
    rw [hl]
    have q1 : (FloatKind.f32.format.order a a != some .eq) = true := na
    have q2 : (FloatKind.f32.format.order b b != some .eq) = false := nb
    go_enter Try.func49, Try.ntmps49
    go_wp2_with fail
    go_ret
    exact ⟨rfl, rfl⟩
  · have hl : lessR a b = 0 := by unfold lessR; rw [na, nb]; rfl
    rw [hl]
    have q1 : (FloatKind.f32.format.order a a != some .eq) = true := na
    have q2 : (FloatKind.f32.format.order b b != some .eq) = true := nb
    go_enter Try.func49, Try.ntmps49
    go_wp2_with fail
    go_ret
    exact ⟨rfl, rfl⟩

theorem enters {P : Program} {f : FuncId} {fn : Func} (hf : P.funcs[f]? = some fn) (hn : (fn.name == "runtime.NumGoroutine") = false) (hb : fn.body.isNone = false) (args : Array Value) (w : World) : (callFunc f args).run P w = .ok (.enter f args) w := by
  have h1 : fn.name ≠ "runtime.NumGoroutine" := by simpa using hn
  have h2 : ¬ fn.body = none := by intro e; rw [e] at hb; cases hb
  simp [callFunc, hf, h1, h2]
theorem cmpP : Cmp 21 lessP Wd :=
  ⟨fun args u => enters Try.func21 (by kernel_rfl) (by kernel_rfl) _ _, fun x y u hx hy => (scope_less x y hx.1 hy.1 u).mono fun _ _ ⟨h1, h2⟩ => ⟨h1, by rw [← h2]; exact Below.refl _ _⟩⟩
theorem cmpR : Cmp 49 lessR Wd :=
  ⟨fun args u => enters Try.func49 (by kernel_rfl) (by kernel_rfl) _ _, fun x y u hx hy => (ref_less x y hx.1 hy.1 u).mono fun _ _ ⟨h1, h2⟩ => ⟨h1, by rw [← h2]; exact Below.refl _ _⟩⟩
end Go.Proofs.Ytlfcedecobebmaa
