/- num.ParseHex: the bits of a single, of eight digits. -/
import Derived.Test.YtckadkobgmnoeaaDoorWdO
import Derived.Test.YtckadkobgmnoeaaDoorFl
import Derived.Test.YtckadkobgmnoeaaDoorSc
namespace Go.Proofs.YtckadkobgmnoeaaDoor
open Go.RowKit

def hexL : List UInt8 := [48, 49, 50, 51, 52, 53, 54, 55, 56, 57, 97, 98, 99, 100, 101, 102]
def hexD (c : UInt8) : Int := Lib.indexByte hexL c
/-- The bits that the digits write, b ahead of them. -/
def hexF : Nat → List UInt8 → Option Nat
  | b, [] => some b
  | b, c :: l => if hexD c < 0 then none else hexF (b * 16 + (hexD c).toNat) l
/-- What stands for eight digits: the bits and the error. -/
def hexV (b : Nat) : Nat × Int := if isNaN b = true ∧ b ≠ 2143289344 then (0, 2) else (b, 0)
def hexR (l : List UInt8) : Nat × Int := if l.length = 8 then (match hexF 0 l with | none => (0, 9) | some b => hexV b) else (0, 9)

theorem hexD_lt (c : UInt8) : hexD c < 16 := by
  by_cases h : hexD c < 0
  · omega
  · obtain ⟨o, ho⟩ : ∃ o : Nat, hexD c = o := ⟨(hexD c).toNat, by omega⟩
    have h1 := (Lib.indexByte_some (show Lib.indexByte hexL c = o from ho)).1
    have h2 : o < hexL.length := (List.getElem?_eq_some_iff.1 h1).1
    have h3 : hexL.length = 16 := rfl
    omega
theorem or_digit (b d : Nat) (hd : d < 16) (hb : b * 16 < 4294967296) : bits .or .u32 ((b : Int) * 16 % 4294967296) (d : Int) = ((b * 16 + d : Nat) : Int) := by
  rw [show ((b : Int) * 16 % 4294967296) = ((b * 16 : Nat) : Int) by omega, u32_or_nat _ _ hb (by omega)]
  rw [show b * 16 = b <<< 4 by rw [Nat.shiftLeft_eq], ← Nat.shiftLeft_add_eq_or_of_lt hd]
theorem pow_step {b d i : Nat} (hb : b < 16 ^ i) (hd : d < 16) : b * 16 + d < 16 ^ (i + 1) := by rw [Nat.pow_succ]; omega
theorem pow_le8 {i : Nat} (hi : i < 8) : 16 ^ i * 16 ≤ 4294967296 := by
  rcases (by omega : i = 0 ∨ i = 1 ∨ i = 2 ∨ i = 3 ∨ i = 4 ∨ i = 5 ∨ i = 6 ∨ i = 7) with rfl | rfl | rfl | rfl | rfl | rfl | rfl | rfl <;> decide
theorem hexF_step {l : List UInt8} {k b : Nat} {c : UInt8} (h : l[k]? = some c) : hexF b (l.drop k) = if hexD c < 0 then none else hexF (b * 16 + (hexD c).toNat) (l.drop (k + 1)) := by
  obtain ⟨hk, rfl⟩ := List.getElem?_eq_some_iff.1 h
  rw [List.drop_eq_getElem_cons hk, hexF]

set_option maxRecDepth 100000 in
set_option maxHeartbeats 4000000 in
theorem num_ParseHex (s : ByteArray) (W : World) : Calls Tryd.prog 37 #[.string s] W fun e w' => e = .returned (.tuple #[.float .f32 (hexR s.data.toList).1, .int .i64 (hexR s.data.toList).2]) ∧ W = w' := by
  by_cases h8 : s.size = 8
  rotate_left
  · have hd : (((s.size : Int)) != 8) = true := bne_iff_ne.2 (by omega)
    have hr : hexR s.data.toList = (0, 9) := by unfold hexR; rw [if_neg (by rw [← Lib.size_eq]; exact h8)]
    rw [hr]
    go_enter Tryd.func37, Tryd.ntmps37
    go_wp2_with fail
    go_ret2
    exact ⟨rfl, rfl⟩
  · have hl : s.data.toList.length = 8 := by rw [← Lib.size_eq]; exact h8
    obtain ⟨rv, re, hr⟩ : ∃ rv re, hexR s.data.toList = (rv, re) := ⟨_, _, rfl⟩
    rw [hr]
    unfold hexR at hr
    rw [if_pos hl] at hr
    have Hr := Lib.hid hr
    clear hr hl
    go_enter Tryd.func37, Tryd.ntmps37
    go_wp2_with fail
    go_loopw [4, 11] (fun bv iv wr => ∃ (i b : Nat), bv = .int .u32 (b : Int) ∧ iv = .int .i64 (i : Int) ∧ i ≤ 8 ∧ b < 16 ^ i ∧ Hid (hexF 0 s.data.toList = hexF b (s.data.toList.drop i)) ∧ wr = W) (fun _ iv _ => 8 - (intOf iv).toNat)
    case atStart => exact ⟨0, 0, rfl, rfl, by omega, by omega, Lib.hid rfl, rfl⟩
    case round =>
      obtain ⟨i, b, rfl, rfl, hi, hb, Hf, rfl⟩ := hrel
      by_cases hlt : i < 8
      · have hi2 : i < s.size := by omega
        obtain ⟨c, hc⟩ : ∃ c, s[i]'hi2 = c := ⟨_, rfl⟩
        have Hs := Lib.hid (hexF_step (b := b) (show s.data.toList[i]? = some c by rw [← hc]; exact Lib.data_getElem? s i hi2))
        obtain ⟨d, hd⟩ : ∃ d, hexD c = d := ⟨_, rfl⟩
        have hd16 := hexD_lt c
        rw [hd] at Hs hd16
        have hback : ((c.toNat : Int)).toNat.toUInt8 = c := by simp
        have hdx : Lib.indexByte [48, 49, 50, 51, 52, 53, 54, 55, 56, 57, 97, 98, 99, 100, 101, 102] c = d := hd
        clear hd
        by_cases hneg : d < 0
        · have hz : (rv, re) = ((0 : Nat), (9 : Int)) := by
            have h1 := Hr.out
            rw [Hf.out, Hs.out, if_pos hneg] at h1
            exact h1.symm
          cases hz
          go_wp2_with (go_at_call 53; refine (Tryd.strings_IndexByte _ _ _).mono ?_; rintro e w1 ⟨rfl, hw⟩; rw [hw, hback, hdx]; clear hw)
          go_ret2
          exact ⟨rfl, rfl⟩
        · obtain ⟨dn, rfl⟩ : ∃ dn : Nat, d = (dn : Int) := ⟨d.toNat, by omega⟩
          have hor := or_digit b dn (by omega) (by have := pow_le8 hlt; omega)
          go_wp2_with (go_at_call 53; refine (Tryd.strings_IndexByte _ _ _).mono ?_; rintro e w1 ⟨rfl, hw⟩; rw [hw, hback, hdx]; clear hw)
          go_roundw
          case rel => exact ⟨i + 1, b * 16 + dn, by go_num, by go_num, by omega, pow_step hb (by omega), Lib.hid (by rw [Hf.out, Hs.out, if_neg (by omega)]; rfl), trivial⟩
          case measure => simp [intOf]; omega
      · obtain rfl : i = 8 := by omega
        have hz : (rv, re) = hexV b := by
          have h1 := Hr.out
          rw [Hf.out, List.drop_eq_nil_of_le (by rw [← Lib.size_eq]; omega), hexF] at h1
          exact h1.symm
        unfold hexV at hz
        clear Hf
        cases hnan : (FloatKind.f32.format.order b b != some .eq)
        · rw [if_neg (by rintro ⟨h1, _⟩; unfold isNaN at h1; rw [hnan] at h1; cases h1)] at hz
          cases hz
          go_wp2_with fail
          go_ret2
          exact ⟨rfl, rfl⟩
        · by_cases hcb : b = 2143289344
          · rw [if_neg (by rintro ⟨_, h1⟩; exact h1 hcb)] at hz
            subst hcb
            cases hz
            go_wp2_with fail
            go_ret2
            exact ⟨rfl, rfl⟩
          · rw [if_pos ⟨hnan, hcb⟩] at hz
            cases hz
            have hc2 : ((b : Int) != 2143289344) = true := bne_iff_ne.2 (by omega)
            go_wp2_with fail
            go_ret2
            exact ⟨rfl, rfl⟩
end Go.Proofs.YtckadkobgmnoeaaDoor
