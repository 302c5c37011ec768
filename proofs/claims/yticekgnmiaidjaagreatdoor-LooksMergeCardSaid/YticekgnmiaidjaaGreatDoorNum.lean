/- Which singles are numbers: the program's and the reference's answer. -/
import Derived.Test.YticekgnmiaidjaaGreatDoorMem
namespace Go.Proofs.YticekgnmiaidjaaGreatDoor
open Go.RowKit

/-- A single that is neither a NaN nor an infinity. -/
def isNum (b : Nat) : Bool := match rd b with | .number .. => true | _ => false

theorem signed_abs (s : Bool) (m n : Nat) : (Ieee.signed s m n = ((m * 2 ^ n : Nat) : Int)) ∨ (Ieee.signed s m n = -((m * 2 ^ n : Nat) : Int)) := by
  unfold Ieee.signed
  cases s
  · exact .inl (by simp [Nat.shiftLeft_eq])
  · exact .inr (by simp [Nat.shiftLeft_eq])
theorem read_bd {b : Nat} {s : Bool} {m : Nat} {i : Int} (h : rd b = .number s m i) : m < 16777216 ∧ -149 ≤ i ∧ i ≤ 104 := by
  unfold rd Ieee.Format.read at h
  have h1 : FloatKind.f32.format.binade = 8388608 := by decide
  have h2 : FloatKind.f32.format.infRung = 2139095040 := by decide
  have h3 : FloatKind.f32.format.leastPlace = -149 := by decide
  simp only [h1, h2, h3] at h
  generalize b % FloatKind.f32.format.signWeight = q at h
  split at h
  · rename_i hq
    simp only [Ieee.Datum.number.injEq] at h
    omega
  · split at h
    · rename_i hq hq2
      simp only [Ieee.Datum.number.injEq] at h
      have := Nat.mod_lt q (show 0 < 8388608 by omega)
      have h5 : q / 8388608 ≤ 254 := by omega
      omega
    · split at h <;> cases h
theorem rd_max : rd 2139095039 = .number false 16777215 104 := by decide
theorem rd_min : rd 4286578687 = .number true 16777215 104 := by decide

theorem order_max (b : Nat) : (FloatKind.f32.format.order b 2139095039 == some .gt) = (match rd b with | .infinity false => true | _ => false) := by
  show ((rd b).order (rd 2139095039) == some .gt) = _
  rw [rd_max]
  cases hb : rd b with
  | nan => rfl
  | infinity s => cases s <;> rfl
  | number s m i =>
    obtain ⟨h1, h2, h3⟩ := read_bd hb
    show (some (compare (Ieee.signed s m (i - min i 104).toNat) (Ieee.signed false 16777215 (104 - min i 104).toNat)) == some .gt) = false
    rw [show min i 104 = i by omega, show (i - i).toNat = 0 by omega]
    have hp : 1 ≤ 2 ^ (104 - i).toNat := Nat.one_le_two_pow
    have hq : 16777215 ≤ 16777215 * 2 ^ (104 - i).toNat := Nat.le_mul_of_pos_right _ hp
    have e2 : Ieee.signed false 16777215 (104 - i).toNat = ((16777215 * 2 ^ (104 - i).toNat : Nat) : Int) := by simp [Ieee.signed, Nat.shiftLeft_eq]
    rw [e2, Int.compare_eq_ite_lt]
    generalize 16777215 * 2 ^ (104 - i).toNat = z at hq
    have e1 := signed_abs s m 0
    rw [Nat.pow_zero, Nat.mul_one] at e1
    split
    · rfl
    · rw [if_neg (by omega)]; rfl
theorem order_min (b : Nat) : (FloatKind.f32.format.order b 4286578687 == some .lt) = (match rd b with | .infinity true => true | _ => false) := by
  show ((rd b).order (rd 4286578687) == some .lt) = _
  rw [rd_min]
  cases hb : rd b with
  | nan => rfl
  | infinity s => cases s <;> rfl
  | number s m i =>
    obtain ⟨h1, h2, h3⟩ := read_bd hb
    show (some (compare (Ieee.signed s m (i - min i 104).toNat) (Ieee.signed true 16777215 (104 - min i 104).toNat)) == some .lt) = false
    rw [show min i 104 = i by omega, show (i - i).toNat = 0 by omega]
    have hp : 1 ≤ 2 ^ (104 - i).toNat := Nat.one_le_two_pow
    have hq : 16777215 ≤ 16777215 * 2 ^ (104 - i).toNat := Nat.le_mul_of_pos_right _ hp
    have e2 : Ieee.signed true 16777215 (104 - i).toNat = -((16777215 * 2 ^ (104 - i).toNat : Nat) : Int) := by simp [Ieee.signed, Nat.shiftLeft_eq]
    rw [e2, Int.compare_eq_ite_lt]
    generalize 16777215 * 2 ^ (104 - i).toNat = z at hq
    have e1 := signed_abs s m 0
    rw [Nat.pow_zero, Nat.mul_one] at e1
    rw [if_neg (by omega)]
    split <;> rfl
theorem order_eq (b : Nat) : (FloatKind.f32.format.order b b == some .eq) = !isNaN b := by
  unfold isNaN
  cases FloatKind.f32.format.order b b with
  | none => rfl
  | some o => cases o <;> rfl
theorem isNum_nan {b : Nat} (h : isNaN b = true) : isNum b = false := by
  rw [isNaN_iff] at h
  unfold isNum
  cases hb : rd b <;> simp_all [Ieee.Datum.isNaN]

/-- A number less itself is nought. -/
theorem sub_self_num {b : Nat} (h : isNum b = true) : floatBits .sub .f32 b b = some 0 := by
  unfold isNum at h
  cases hb : rd b with
  | nan => simp [hb] at h
  | infinity => simp [hb] at h
  | number s m i =>
    have hb' : FloatKind.f32.format.read b = .number s m i := hb
    show FloatKind.f32.format.sub b b = some 0
    unfold Ieee.Format.sub
    rw [hb']
    simp only [Ieee.Datum.opposite, Ieee.Datum.sum]
    have e : Ieee.signed s m (i - min i i).toNat + Ieee.signed (!s) m (i - min i i).toNat = 0 := by
      unfold Ieee.signed; cases s <;> simp <;> omega
    rw [e]
    simp only [if_pos]
    have e2 : (s && !s) = false := by cases s <;> rfl
    rw [e2]
    rfl
theorem sub_self_not {b : Nat} (h : isNum b = false) : floatBits .sub .f32 b b = none := by
  cases hb : rd b with
  | number => simp [isNum, hb] at h
  | nan s f =>
    have : isNaN b = true := by rw [isNaN_iff, hb]; rfl
    exact floatBits_nan_left this
  | infinity s =>
    have hb' : FloatKind.f32.format.read b = .infinity s := hb
    show FloatKind.f32.format.sub b b = none
    unfold Ieee.Format.sub
    rw [hb']
    cases s <;> rfl
/-- v - v is nought just of a number. -/
theorem sub_is_zero (b : Nat) (w : World) : (FloatKind.f32.format.order (fres .sub .f32 b b w) 0 == some .eq) = isNum b := by
  cases h : isNum b with
  | true =>
    have : fres .sub .f32 b b w = 0 := by simp [fres, sub_self_num h]
    rw [this]; decide
  | false =>
    have hn : fres .sub .f32 b b w = (Question.nanBits .f32 b b).cut (w.tape w.drawn (.nanBits .f32 b b)) := by simp [fres, sub_self_not h]
    have hc : isNaN (fres .sub .f32 b b w) = true := by rw [hn]; exact cut_nan _ _ _
    rw [isNaN_iff] at hc
    show ((rd (fres .sub .f32 b b w)).order (rd 0) == some .eq) = false
    rw [order_none_left hc]; rfl

set_option maxRecDepth 100000 in
theorem num_infinite (b : Nat) (W : World) : Calls Tryz.prog 158 #[.float .f32 b] W fun e w' => e = .returned (.bool (match rd b with | .infinity _ => true | _ => false)) ∧ W = w' := by
  have h1 := order_max b
  have h2 := order_min b
  cases hb : rd b with
  | nan s f =>
    simp only [hb] at h1 h2
    clear hb
    go_enter Tryz.func158, Tryz.ntmps158
    go_wp2
    go_ret
    exact ⟨rfl, rfl⟩
  | number s m i =>
    simp only [hb] at h1 h2
    clear hb
    go_enter Tryz.func158, Tryz.ntmps158
    go_wp2
    go_ret
    exact ⟨rfl, rfl⟩
  | infinity s =>
    cases s
    · simp only [hb] at h1 h2
      clear hb
      go_enter Tryz.func158, Tryz.ntmps158
      go_wp2
      go_ret
      exact ⟨rfl, rfl⟩
    · simp only [hb] at h1 h2
      clear hb
      go_enter Tryz.func158, Tryz.ntmps158
      go_wp2
      go_ret
      exact ⟨rfl, rfl⟩

set_option maxRecDepth 100000 in
theorem num_IsNumber (b : Nat) (W : World) : Calls Tryz.prog 121 #[.float .f32 b] W fun e w' => e = .returned (.bool (isNum b)) ∧ W = w' := by
  have h0 := order_eq b
  have hinf := num_infinite b
  cases hb : isNaN b
  · rw [hb] at h0
    have hk : isNum b = !(match rd b with | .infinity _ => true | _ => false) := by
      rw [isNaN_iff] at hb
      unfold isNum
      cases h : rd b <;> simp_all [Ieee.Datum.isNaN]
    have Hk := Lib.hid hk
    have Hi := Lib.hid hinf
    clear hb hk hinf
    generalize (match rd b with | .infinity _ => true | _ => false) = q at *
    go_enter Tryz.func121, Tryz.ntmps121
    go_wp2_with (go_at_call 158; refine (Hi.out _).mono ?_; rintro e w' ⟨rfl, rfl⟩)
    go_ret
    exact ⟨ret_bool Hk.out.symm, rfl⟩
  · rw [hb] at h0
    have hk := isNum_nan hb
    have Hk := Lib.hid hk
    clear hb hk hinf
    go_enter Tryz.func121, Tryz.ntmps121
    go_wp2_with fail
    go_ret
    exact ⟨ret_bool Hk.out.symm, rfl⟩

set_option maxRecDepth 100000 in
theorem ref_IsNumber (b : Nat) (W : World) : Calls Tryz.prog 37 #[.float .f32 b] W fun e w' => e = .returned (.bool (isNum b)) ∧ Below W.heap.size W w' := by
  have h0 := sub_is_zero b
  go_enter Tryz.func37, Tryz.ntmps37
  go_wp2_with fail
  go_ret
  exact ⟨rfl, below_drewN (Below.refl _ _) _⟩
end Go.Proofs.YticekgnmiaidjaaGreatDoor
