/- The reference's hexSingle: strconv.ParseUint of eight sixteens. -/
import Derived.Test.YtckadkobgmnoeaaDoorFpA
import Derived.Lib.AtoiErrMem
namespace Go.Proofs.YtckadkobgmnoeaaDoor
open Go.RowKit

theorem hexD_cases (c : UInt8) (h : ¬ hexD c < 0) : (48 ≤ c.toNat ∧ c.toNat ≤ 57 ∧ (hexD c).toNat = c.toNat - 48) ∨ (97 ≤ c.toNat ∧ c.toNat ≤ 102 ∧ (hexD c).toNat = c.toNat - 87) := by
  obtain ⟨o, ho⟩ : ∃ o : Nat, hexD c = o := ⟨(hexD c).toNat, by omega⟩
  have h1 := (Lib.indexByte_some (show Lib.indexByte hexL c = o from ho)).1
  have hlt := hexD_lt c
  rw [ho] at hlt ⊢
  have ho16 : o < 16 := by omega
  clear h ho hlt
  rcases (by omega : o = 0 ∨ o = 1 ∨ o = 2 ∨ o = 3 ∨ o = 4 ∨ o = 5 ∨ o = 6 ∨ o = 7 ∨ o = 8 ∨ o = 9 ∨ o = 10 ∨ o = 11 ∨ o = 12 ∨ o = 13 ∨ o = 14 ∨ o = 15) with rfl | rfl | rfl | rfl | rfl | rfl | rfl | rfl | rfl | rfl | rfl | rfl | rfl | rfl | rfl | rfl <;> (simp only [hexL, List.getElem?_cons_zero, List.getElem?_cons_succ, Option.some.injEq] at h1; subst h1; decide)
theorem low_letter (n : Nat) (h : 97 ≤ n ∧ n ≤ 102) : bits .or .u8 (n : Int) 32 = (n : Int) := by
  rcases (by omega : n = 97 ∨ n = 98 ∨ n = 99 ∨ n = 100 ∨ n = 101 ∨ n = 102) with rfl | rfl | rfl | rfl | rfl | rfl <;> rfl

set_option maxHeartbeats 16000000 in
set_option maxRecDepth 100000 in
theorem parse_u16 (t : ByteArray) (r : Nat) (h8 : t.size = 8) (hr : hexF 0 t.data.toList = some r) (w : World) :
    Calls Tryd.prog 91 #[.string t, .int .i64 16, .int .i64 32] w fun e w' => e = .returned (.tuple #[.int .u64 (r : Int), .nilIface]) ∧ Below w.heap.size w w' := by
  have hemp : t.toList.isEmpty = false := by
    rw [← decide_eq_emptyBytes]
    exact decide_eq_false (fun h => by rw [h] at h8; cases h8)
  have hcv := Lib.run_convert_string_bytes (P := Tryd.prog) w 9 42 5 t (u := .string) Tryd.underlying9 Tryd.underlying42 Tryd.underlying5
  have hB : ∀ j, j < t.size → (Lib.bytesWorld w 5 t).cell? ⟨w.heap.size, j, none⟩ = some (.int .u8 (t.data.toList.getD j 0).toNat) := fun j hj => Lib.bytesWorld_cell w 5 t j hj
  obtain ⟨W1, hW1⟩ : ∃ W1, W1 = Lib.bytesWorld w 5 t := ⟨_, rfl⟩
  have hBel : Below w.heap.size w W1 := by rw [hW1]; exact Lib.bytesWorld_below _ _ _
  rw [← hW1] at hcv hB
  clear hW1
  obtain ⟨bs, hL⟩ : ∃ bs, bs = t.data.toList := ⟨_, rfl⟩
  have hLn : bs.length = 8 := by rw [hL, ← Lib.size_eq, h8]
  rw [← hL] at hB hr
  rw [h8] at hB
  have Hr := Lib.hid hr
  clear hL hr
  go_enter Tryd.func91, Tryd.ntmps91
  go_wp2
  go_loop [12, 13, 101] (fun vu vn vi => ∃ (k b : Nat) (a : Int), vu = .bool false ∧ vn = .int .u64 a ∧ vi = .int .i64 k ∧ k ≤ 8 ∧ Hid (a = (b : Int) ∧ b < 16 ^ k ∧ hexF 0 bs = hexF b (bs.drop k)))
    (fun _ _ vi => 8 - (intOf vi).toNat)
  case atStart => exact ⟨0, 0, 0, rfl, rfl, rfl, by omega, rfl, by omega, rfl⟩
  case round =>
    obtain ⟨k, b, a, rfl, rfl, rfl, hk, hh⟩ := hrel
    obtain ⟨ha, hb, hdec⟩ := hh.out
    clear hh
    by_cases hkn : k < 8
    · have hc := hB k hkn
      have hlb : k < bs.length := by omega
      have hget : bs.getD k 0 = bs[k]'hlb := by simp [List.getD, List.getElem?_eq_getElem hlb]
      rw [hget] at hc
      clear hget
      have hs := hexF_step (b := b) (List.getElem?_eq_getElem hlb)
      generalize bs[k]'hlb = c at hc hs
      clear hB
      have hpos : ¬ hexD c < 0 := fun h => by
        have h1 := Hr.out
        rw [hdec, hs, if_pos h] at h1
        cases h1
      rw [if_neg hpos] at hs
      have hd16 := hexD_lt c
      have hp := pow_le8 hkn
      have hps := pow_step (d := (hexD c).toNat) hb (by omega)
      have HN : Hid (hexF 0 bs = hexF (b * 16 + (hexD c).toNat) (bs.drop (k + 1))) := Lib.hid (hdec.trans hs)
      have a0 : 0 ≤ a := by omega
      have a1 : a * 16 + 15 < 4294967296 := by omega
      have hc256 : c.toNat < 256 := c.toNat_lt
      clear hs hdec hp
      rcases hexD_cases c hpos with ⟨h1, h2, h3⟩ | ⟨h1, h2, h3⟩
      · have HF : Hid (a * 16 + ((c.toNat : Int) - 48) = ((b * 16 + (hexD c).toNat : Nat) : Int) ∧ b * 16 + (hexD c).toNat < 16 ^ (k + 1) ∧ hexF 0 bs = hexF (b * 16 + (hexD c).toNat) (bs.drop (k + 1))) := Lib.hid ⟨by omega, hps, HN.out⟩
        clear hps hb ha h3 hd16 hpos HN
        go_wp2
        refine ⟨⟨k + 1, _, a * 16 + ((c.toNat : Int) - 48), rfl, (by first | rfl | (congr 1; omega)), (by first | rfl | (congr 1; omega)), by omega, HF⟩, by simp [intOf]; omega⟩
      · have hlow := low_letter c.toNat ⟨h1, h2⟩
        have HF : Hid (a * 16 + ((c.toNat : Int) - 87) = ((b * 16 + (hexD c).toNat : Nat) : Int) ∧ b * 16 + (hexD c).toNat < 16 ^ (k + 1) ∧ hexF 0 bs = hexF (b * 16 + (hexD c).toNat) (bs.drop (k + 1))) := Lib.hid ⟨by omega, hps, HN.out⟩
        have e1 : ((c.toNat : Int) == 95) = false := beq_eq_false_iff_ne.2 (by omega)
        have e2 : decide ((48 : Int) ≤ (c.toNat : Int)) = true := decide_eq_true (by omega)
        have e3 : decide ((c.toNat : Int) ≤ 57) = false := decide_eq_false (by omega)
        have e4 : decide ((97 : Int) ≤ (c.toNat : Int)) = true := decide_eq_true (by omega)
        have e5 : decide ((c.toNat : Int) ≤ 122) = true := decide_eq_true (by omega)
        clear hps hb ha h3 hd16 hpos HN
        go_wp2_with (go_at_call 94; refine (Tryd.internal_strconv_lower _ _).mono ?_; rintro e w' ⟨rfl, hw⟩; rw [hw, hlow]; clear hw)
        refine ⟨⟨k + 1, _, a * 16 + ((c.toNat : Int) - 87), rfl, (by first | rfl | (congr 1; omega)), (by first | rfl | (congr 1; omega)), by omega, HF⟩, by simp [intOf]; omega⟩
    · obtain rfl : k = 8 := by omega
      have hz : r = b := by
        have h1 := Hr.out
        rw [hdec, List.drop_eq_nil_of_le (by omega), hexF] at h1
        exact (Option.some.inj h1).symm
      subst hz
      subst ha
      clear hdec hb
      go_wp2
      go_ret2
      exact ⟨rfl, hBel⟩
end Go.Proofs.YtckadkobgmnoeaaDoor
