/- dyeref1.hexSingle: the bits of a single, of eight digits. -/
import Derived.Test.YtdcacijacmjjoaaDoorFpB
namespace Go.Proofs.YtdcacijacmjjoaaDoor
open Go.RowKit

theorem pub_u16 (t : ByteArray) (r : Nat) (h8 : t.size = 8) (hr : hexF 0 t.data.toList = some r) (w : World) :
    Calls Tryd.prog 31 #[.string t, .int .i64 16, .int .i64 32] w fun e w' => e = .returned (.tuple #[.int .u64 (r : Int), .nilIface]) ∧ Below w.heap.size w w' := by
  go_enter Tryd.func31, Tryd.ntmps31
  go_wp2_with fail
  refine (parse_u16 t r h8 hr _).mono ?_
  rintro e w1 ⟨rfl, B⟩
  go_wp2_with fail
  go_ret2
  exact ⟨rfl, B⟩

theorem hexF_lt : ∀ (l : List UInt8) (b r k : Nat), b < 16 ^ k → hexF b l = some r → r < 16 ^ (k + l.length)
  | [], b, r, k, hb, h => by rw [hexF] at h; cases h; simpa using hb
  | c :: l, b, r, k, hb, h => by
    rw [hexF] at h
    split at h
    · cases h
    · have := hexF_lt l _ r (k + 1) (pow_step hb (by have := hexD_lt c; omega)) h
      rw [List.length_cons, show k + (l.length + 1) = k + 1 + l.length by omega]; exact this
/-- The reference asks of each sign whether it is a digit. -/
theorem hexF_some : ∀ (l : List UInt8) (b : Nat), (∀ c, c ∈ l → ¬ hexD c < 0) → ∃ r, hexF b l = some r
  | [], b, _ => ⟨b, rfl⟩
  | c :: l, b, h => by
    rw [hexF, if_neg (h c (List.mem_cons_self ..))]
    exact hexF_some l _ fun d hd => h d (List.mem_cons_of_mem _ hd)
theorem hexF_none : ∀ (l : List UInt8) (b : Nat) (c : UInt8), c ∈ l → hexD c < 0 → hexF b l = none
  | d :: l, b, c, h, hc => by
    rw [hexF]
    split
    · rfl
    · rename_i hd
      rcases List.mem_cons.1 h with rfl | h
      · exact absurd hc hd
      · exact hexF_none l _ c h hc

set_option maxRecDepth 100000 in
set_option maxHeartbeats 4000000 in
theorem ref_hexSingle (s : ByteArray) (W : World) : Calls Tryd.prog 18 #[.string s] W fun e w' => e = .returned (.tuple #[.float .f32 (hexR s.data.toList).1, .int .i64 (hexR s.data.toList).2]) ∧ Below W.heap.size W w' := by
  by_cases h8 : s.size = 8
  rotate_left
  · have hd : (((s.size : Int)) != 8) = true := bne_iff_ne.2 (by omega)
    have hr : hexR s.data.toList = (0, 9) := by unfold hexR; rw [if_neg (by rw [← Lib.size_eq]; exact h8)]
    rw [hr]
    go_enter Tryd.func18, Tryd.ntmps18
    go_wp2_with fail
    go_ret2
    exact ⟨rfl, Below.refl _ _⟩
  · have hl : s.data.toList.length = 8 := by rw [← Lib.size_eq]; exact h8
    obtain ⟨rv, re, hr⟩ : ∃ rv re, hexR s.data.toList = (rv, re) := ⟨_, _, rfl⟩
    rw [hr]
    unfold hexR at hr
    rw [if_pos hl] at hr
    have Hr := Lib.hid hr
    clear hr
    go_enter Tryd.func18, Tryd.ntmps18
    go_wp2_with fail
    go_loopw [13] (fun iv wr => ∃ (i : Nat), iv = .int .i64 (i : Int) ∧ i ≤ 8 ∧ Hid (∀ k c, k < i → s.data.toList[k]? = some c → 0 ≤ hexD c) ∧ wr = W) (fun iv _ => 8 - (intOf iv).toNat)
    case atStart => exact ⟨0, rfl, by omega, Lib.hid (fun k c h => by omega), rfl⟩
    case round =>
      obtain ⟨i, rfl, hi, Hf, rfl⟩ := hrel
      by_cases hlt : i < 8
      · have hi2 : i < s.size := by omega
        obtain ⟨c, hc⟩ : ∃ c, s[i]'hi2 = c := ⟨_, rfl⟩
        have Hs := Lib.hid (show s.data.toList[i]? = some c by rw [← hc]; exact Lib.data_getElem? s i hi2)
        have hex : s.extract i (i + 1) = ⟨#[c]⟩ := by
          apply ByteArray.ext
          apply Array.toList_inj.1
          rw [ByteArray.data_extract, Array.toList_extract]
          show (s.data.toList.drop i).take (i + 1 - i) = _
          rw [List.drop_eq_getElem_cons (by omega)]
          have := Hs.out
          rw [List.getElem?_eq_getElem (by omega)] at this
          rw [Option.some.inj this]
          simp
        clear hc
        obtain ⟨bd, hbd⟩ : ∃ bd, decide (0 ≤ hexD c) = bd := ⟨_, rfl⟩
        have hbx : decide (0 ≤ Lib.indexByte [48, 49, 50, 51, 52, 53, 54, 55, 56, 57, 97, 98, 99, 100, 101, 102] c) = bd := hbd
        have HB := Lib.hid hbd
        clear hbd
        cases bd
        · have hz : (rv, re) = ((0 : Nat), (9 : Int)) := by
            have h1 := Hr.out
            have h2 := of_decide_eq_false HB.out
            rw [hexF_none _ 0 c (List.mem_of_getElem? Hs.out) (by omega)] at h1
            exact h1.symm
          cases hz
          go_wp2_with (go_at_call 30; refine (Tryd.strings_Contains_one _ c _).mono ?_; rintro e w1 ⟨rfl, hw⟩; rw [hw, hbx]; clear hw)
          go_ret2
          exact ⟨rfl, Below.refl _ _⟩
        · have HN : Hid (∀ k c, k < i + 1 → s.data.toList[k]? = some c → 0 ≤ hexD c) := Lib.hid fun k d hk hd => by
            by_cases hki : k < i
            · exact Hf.out k d hki hd
            · obtain rfl : k = i := by omega
              rw [Hs.out] at hd
              cases hd
              have h2 := of_decide_eq_true HB.out
              omega
          go_wp2_with (go_at_call 30; refine (Tryd.strings_Contains_one _ c _).mono ?_; rintro e w1 ⟨rfl, hw⟩; rw [hw, hbx]; clear hw)
          go_roundw
          case rel => exact ⟨i + 1, by go_num, by omega, HN, trivial⟩
          case measure => simp [intOf]; omega
      · obtain rfl : i = 8 := by omega
        obtain ⟨b, hb⟩ := hexF_some s.data.toList 0 fun c hc => by
          obtain ⟨k, hk⟩ := List.getElem?_of_mem hc
          exact Int.not_lt.2 (Hf.out k c (by have := (List.getElem?_eq_some_iff.1 hk).1; omega) hk)
        have hb8 : b < 4294967296 := by
          have := hexF_lt _ 0 b 0 (by decide) hb
          rw [hl] at this; exact this
        have hz : (rv, re) = hexV b := by
          have h1 := Hr.out
          rw [hb] at h1
          exact h1.symm
        unfold hexV at hz
        have HP := Lib.hid (pub_u16 s b h8 hb)
        clear Hf hl hb Hr
        cases hnan : (FloatKind.f32.format.order b b != some .eq)
        · rw [if_neg (by rintro ⟨h1, _⟩; unfold isNaN at h1; rw [hnan] at h1; cases h1)] at hz
          cases hz
          go_wp2_with fail
          refine (HP.out _).mono ?_
          rintro e w1 ⟨rfl, B⟩
          go_wp2_with fail
          go_ret2
          exact ⟨rfl, B⟩
        · by_cases hcb : b = 2143289344
          · rw [if_neg (by rintro ⟨_, h1⟩; exact h1 hcb)] at hz
            subst hcb
            cases hz
            go_wp2_with fail
            refine (HP.out _).mono ?_
            rintro e w1 ⟨rfl, B⟩
            go_wp2_with fail
            go_ret2
            exact ⟨rfl, B⟩
          · rw [if_pos ⟨hnan, hcb⟩] at hz
            cases hz
            have hc2 : ((b : Int) != 2143289344) = true := bne_iff_ne.2 (by omega)
            go_wp2_with fail
            refine (HP.out _).mono ?_
            rintro e w1 ⟨rfl, B⟩
            go_wp2_with fail
            go_ret2
            exact ⟨rfl, B⟩
end Go.Proofs.YtdcacijacmjjoaaDoor
