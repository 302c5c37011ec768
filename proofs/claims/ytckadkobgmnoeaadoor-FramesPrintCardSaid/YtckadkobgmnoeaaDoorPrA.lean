/- num.Hex: the digits of a single's bits. (printed by gen_pra.py) -/
import Derived.Test.YtckadkobgmnoeaaDoorFpS
import Derived.Laws.BitsAllLaws
namespace Go.Proofs.YtckadkobgmnoeaaDoor
open Go.RowKit

theorem and15 (a : Nat) (h : a < 4294967296) : bits .and .u32 (a : Int) 15 = ((a % 16 : Nat) : Int) := by
  have := u32_and_nat a 15 h (by decide)
  rw [show (15 : Nat) = 2 ^ 4 - 1 from rfl, Nat.and_two_pow_sub_one_eq_mod] at this
  exact this
theorem const_at (d : Nat) (h : d < 16) : (⟨#[48, 49, 50, 51, 52, 53, 54, 55, 56, 57, 97, 98, 99, 100, 101, 102]⟩ : ByteArray)[d]'h = hexC d := by
  rcases (by omega : d = 0 ∨ d = 1 ∨ d = 2 ∨ d = 3 ∨ d = 4 ∨ d = 5 ∨ d = 6 ∨ d = 7 ∨ d = 8 ∨ d = 9 ∨ d = 10 ∨ d = 11 ∨ d = 12 ∨ d = 13 ∨ d = 14 ∨ d = 15) with rfl | rfl | rfl | rfl | rfl | rfl | rfl | rfl | rfl | rfl | rfl | rfl | rfl | rfl | rfl | rfl <;> rfl
theorem hex_put {l : List UInt8} {cs : Array Value} {i : Nat} {c : UInt8} (h : ∀ j x, j < i → l[j]? = some x → cs[j]? = some (byV x)) (hc : l[i]? = some c) (hi : i < cs.size) : ∀ j x, j < i + 1 → l[j]? = some x → (cs.setIfInBounds i (byV c))[j]? = some (byV x) := by
  intro j x hj hx
  by_cases hji : j = i
  · subst hji
    rw [hc] at hx
    cases hx
    rw [Array.getElem?_setIfInBounds_self_of_lt hi]
  · rw [Array.getElem?_setIfInBounds_ne (by omega)]
    exact h j x (by omega) hx

set_option maxRecDepth 100000 in
set_option maxHeartbeats 4000000 in
theorem num_Hex (v : Nat) (W : World) (hv : canon v < 4294967296) : Calls Tryd.prog 15 #[.float .f32 v] W fun e w' => e = .returned (.string (ofL (hex8 (canon v)))) ∧ Below W.heap.size W w' := by
  obtain ⟨b, hb⟩ : ∃ b, canon v = b := ⟨_, rfl⟩
  rw [hb] at hv ⊢
  have HB := Lib.hid hb
  clear hb
  obtain ⟨R, hR⟩ : ∃ R, ofL (hex8 b) = R := ⟨_, rfl⟩
  rw [hR]
  have HR := Lib.hid hR
  clear hR
  go_enter Tryd.func15, Tryd.ntmps15
  go_upto_region 3 with (go_at_call 11; refine (num_Bits _ _).mono ?_; rw [HB.out]; rintro e w1 ⟨rfl, hw⟩; rw [← hw]; clear hw)
  refine name_world ?_
  intro w1 hw1
  obtain ⟨g, hg⟩ : ∃ g, g = W.heap.size := ⟨_, rfl⟩
  have x1 : Bx w1 g 67 #[.int .u8 0, .int .u8 0, .int .u8 0, .int .u8 0, .int .u8 0, .int .u8 0, .int .u8 0, .int .u8 0] := by rw [hw1, hg]; exact Bx.new _ _ _
  have B1 : Below W.heap.size W w1 := by rw [hw1]; exact bnew (Below.refl _ _)
  have hWg : W.heap.size ≤ g := Nat.le_of_eq hg.symm
  rw [← hg]
  clear hw1 hg
  go_wp2_with fail
  go_loopw [8] (fun iv wr => ∃ (i : Nat) (cs : Array Value), iv = .int .i64 (i : Int) ∧ i ≤ 8 ∧ cs.size = 8 ∧ Bx wr g 67 cs ∧ Below W.heap.size W wr ∧ Hid (∀ j c, j < i → (hex8 b)[j]? = some c → cs[j]? = some (byV c))) (fun iv _ => 8 - (intOf iv).toNat)
  case atStart => exact ⟨0, _, rfl, Nat.zero_le _, rfl, x1, B1, Lib.hid (fun j c h => by omega)⟩
  case round =>
    clear x1 B1
    obtain ⟨i, cs, rfl, hi, hcs, x, B, Hc⟩ := hrel
    obtain ⟨q, f, l⟩ := x.all
    by_cases hlt : i < 8
    · have pj : (wr.cell? ⟨g, i, none⟩).isSome = true := by rw [q i, Array.getElem?_eq_getElem (by omega)]; rfl
      obtain ⟨old, pj2⟩ := Option.isSome_iff_exists.1 pj
      have fj := f i
      clear q f pj
      rcases (by omega : i = 0 ∨ i = 1 ∨ i = 2 ∨ i = 3 ∨ i = 4 ∨ i = 5 ∨ i = 6 ∨ i = 7) with rfl | rfl | rfl | rfl | rfl | rfl | rfl | rfl
      · obtain ⟨d, hd⟩ : ∃ d, (b / 268435456) % 16 = d := ⟨_, rfl⟩
        have hd16 : d < 16 := by omega
        have hand : bits .and .u32 ((b : Int) / 268435456) 15 = (d : Int) := by
          have := and15 (b / 268435456) (by omega)
          rw [hd] at this
          rw [← this]; rfl
        have hix : (⟨#[48, 49, 50, 51, 52, 53, 54, 55, 56, 57, 97, 98, 99, 100, 101, 102]⟩ : ByteArray)[d]'hd16 = hexC d := const_at d hd16
        have HD : Hid ((hex8 b)[0]? = some (hexC d)) := Lib.hid (by rw [← hd]; rfl)
        clear hd
        go_wp2_with fail
        go_roundw
        case rel => exact ⟨1, cs.setIfInBounds 0 (byV (hexC d)), rfl, by omega, by rw [Array.size_setIfInBounds]; exact hcs, x.set 0 _, Below.set' hWg B, Lib.hid (hex_put Hc.out HD.out (by omega))⟩
        case measure => simp [intOf]
      · obtain ⟨d, hd⟩ : ∃ d, (b / 16777216) % 16 = d := ⟨_, rfl⟩
        have hd16 : d < 16 := by omega
        have hand : bits .and .u32 ((b : Int) / 16777216) 15 = (d : Int) := by
          have := and15 (b / 16777216) (by omega)
          rw [hd] at this
          rw [← this]; rfl
        have hix : (⟨#[48, 49, 50, 51, 52, 53, 54, 55, 56, 57, 97, 98, 99, 100, 101, 102]⟩ : ByteArray)[d]'hd16 = hexC d := const_at d hd16
        have HD : Hid ((hex8 b)[1]? = some (hexC d)) := Lib.hid (by rw [← hd]; rfl)
        clear hd
        go_wp2_with fail
        go_roundw
        case rel => exact ⟨2, cs.setIfInBounds 1 (byV (hexC d)), rfl, by omega, by rw [Array.size_setIfInBounds]; exact hcs, x.set 1 _, Below.set' hWg B, Lib.hid (hex_put Hc.out HD.out (by omega))⟩
        case measure => simp [intOf]
      · obtain ⟨d, hd⟩ : ∃ d, (b / 1048576) % 16 = d := ⟨_, rfl⟩
        have hd16 : d < 16 := by omega
        have hand : bits .and .u32 ((b : Int) / 1048576) 15 = (d : Int) := by
          have := and15 (b / 1048576) (by omega)
          rw [hd] at this
          rw [← this]; rfl
        have hix : (⟨#[48, 49, 50, 51, 52, 53, 54, 55, 56, 57, 97, 98, 99, 100, 101, 102]⟩ : ByteArray)[d]'hd16 = hexC d := const_at d hd16
        have HD : Hid ((hex8 b)[2]? = some (hexC d)) := Lib.hid (by rw [← hd]; rfl)
        clear hd
        go_wp2_with fail
        go_roundw
        case rel => exact ⟨3, cs.setIfInBounds 2 (byV (hexC d)), rfl, by omega, by rw [Array.size_setIfInBounds]; exact hcs, x.set 2 _, Below.set' hWg B, Lib.hid (hex_put Hc.out HD.out (by omega))⟩
        case measure => simp [intOf]
      · obtain ⟨d, hd⟩ : ∃ d, (b / 65536) % 16 = d := ⟨_, rfl⟩
        have hd16 : d < 16 := by omega
        have hand : bits .and .u32 ((b : Int) / 65536) 15 = (d : Int) := by
          have := and15 (b / 65536) (by omega)
          rw [hd] at this
          rw [← this]; rfl
        have hix : (⟨#[48, 49, 50, 51, 52, 53, 54, 55, 56, 57, 97, 98, 99, 100, 101, 102]⟩ : ByteArray)[d]'hd16 = hexC d := const_at d hd16
        have HD : Hid ((hex8 b)[3]? = some (hexC d)) := Lib.hid (by rw [← hd]; rfl)
        clear hd
        go_wp2_with fail
        go_roundw
        case rel => exact ⟨4, cs.setIfInBounds 3 (byV (hexC d)), rfl, by omega, by rw [Array.size_setIfInBounds]; exact hcs, x.set 3 _, Below.set' hWg B, Lib.hid (hex_put Hc.out HD.out (by omega))⟩
        case measure => simp [intOf]
      · obtain ⟨d, hd⟩ : ∃ d, (b / 4096) % 16 = d := ⟨_, rfl⟩
        have hd16 : d < 16 := by omega
        have hand : bits .and .u32 ((b : Int) / 4096) 15 = (d : Int) := by
          have := and15 (b / 4096) (by omega)
          rw [hd] at this
          rw [← this]; rfl
        have hix : (⟨#[48, 49, 50, 51, 52, 53, 54, 55, 56, 57, 97, 98, 99, 100, 101, 102]⟩ : ByteArray)[d]'hd16 = hexC d := const_at d hd16
        have HD : Hid ((hex8 b)[4]? = some (hexC d)) := Lib.hid (by rw [← hd]; rfl)
        clear hd
        go_wp2_with fail
        go_roundw
        case rel => exact ⟨5, cs.setIfInBounds 4 (byV (hexC d)), rfl, by omega, by rw [Array.size_setIfInBounds]; exact hcs, x.set 4 _, Below.set' hWg B, Lib.hid (hex_put Hc.out HD.out (by omega))⟩
        case measure => simp [intOf]
      · obtain ⟨d, hd⟩ : ∃ d, (b / 256) % 16 = d := ⟨_, rfl⟩
        have hd16 : d < 16 := by omega
        have hand : bits .and .u32 ((b : Int) / 256) 15 = (d : Int) := by
          have := and15 (b / 256) (by omega)
          rw [hd] at this
          rw [← this]; rfl
        have hix : (⟨#[48, 49, 50, 51, 52, 53, 54, 55, 56, 57, 97, 98, 99, 100, 101, 102]⟩ : ByteArray)[d]'hd16 = hexC d := const_at d hd16
        have HD : Hid ((hex8 b)[5]? = some (hexC d)) := Lib.hid (by rw [← hd]; rfl)
        clear hd
        go_wp2_with fail
        go_roundw
        case rel => exact ⟨6, cs.setIfInBounds 5 (byV (hexC d)), rfl, by omega, by rw [Array.size_setIfInBounds]; exact hcs, x.set 5 _, Below.set' hWg B, Lib.hid (hex_put Hc.out HD.out (by omega))⟩
        case measure => simp [intOf]
      · obtain ⟨d, hd⟩ : ∃ d, (b / 16) % 16 = d := ⟨_, rfl⟩
        have hd16 : d < 16 := by omega
        have hand : bits .and .u32 ((b : Int) / 16) 15 = (d : Int) := by
          have := and15 (b / 16) (by omega)
          rw [hd] at this
          rw [← this]; rfl
        have hix : (⟨#[48, 49, 50, 51, 52, 53, 54, 55, 56, 57, 97, 98, 99, 100, 101, 102]⟩ : ByteArray)[d]'hd16 = hexC d := const_at d hd16
        have HD : Hid ((hex8 b)[6]? = some (hexC d)) := Lib.hid (by rw [← hd]; rfl)
        clear hd
        go_wp2_with fail
        go_roundw
        case rel => exact ⟨7, cs.setIfInBounds 6 (byV (hexC d)), rfl, by omega, by rw [Array.size_setIfInBounds]; exact hcs, x.set 6 _, Below.set' hWg B, Lib.hid (hex_put Hc.out HD.out (by omega))⟩
        case measure => simp [intOf]
      · obtain ⟨d, hd⟩ : ∃ d, b % 16 = d := ⟨_, rfl⟩
        have hd16 : d < 16 := by omega
        have hand : bits .and .u32 (b : Int) 15 = (d : Int) := by
          have := and15 b (by omega)
          rw [hd] at this
          rw [← this]
        have hix : (⟨#[48, 49, 50, 51, 52, 53, 54, 55, 56, 57, 97, 98, 99, 100, 101, 102]⟩ : ByteArray)[d]'hd16 = hexC d := const_at d hd16
        have HD : Hid ((hex8 b)[7]? = some (hexC d)) := Lib.hid (by rw [← hd]; rfl)
        clear hd
        go_wp2_with fail
        go_roundw
        case rel => exact ⟨8, cs.setIfInBounds 7 (byV (hexC d)), rfl, by omega, by rw [Array.size_setIfInBounds]; exact hcs, x.set 7 _, Below.set' hWg B, Lib.hid (hex_put Hc.out HD.out (by omega))⟩
        case measure => simp [intOf]
    · obtain rfl : i = 8 := by omega
      have hl8 : (hex8 b).length = 8 := rfl
      have hcv := run_convert_bytes_back (P := Tryd.prog) wr 42 9 5 ⟨g, 0, none⟩ 8 (hex8 b) Tryd.underlying42 Tryd.underlying5 Tryd.underlying9 (fun m hm => by
        rw [show ((⟨g, 0, none⟩ : Addr).add m) = ⟨g, m, none⟩ by simp [Addr.add]; intro e; exact e.symm, q m]
        exact Hc.out m _ (by rw [hl8] at hm; exact hm) (List.getElem?_eq_getElem hm))
      rw [hl8, show (⟨(hex8 b).toArray⟩ : ByteArray) = R from HR.out] at hcv
      clear q f Hc hl8
      go_wp2_with fail
      go_ret
      exact ⟨rfl, B⟩
end Go.Proofs.YtckadkobgmnoeaaDoor
