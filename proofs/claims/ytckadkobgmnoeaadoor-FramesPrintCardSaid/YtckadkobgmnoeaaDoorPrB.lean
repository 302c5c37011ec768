/- dyeref1.Hex: strconv.FormatUint at base 16, and what it lacks of eight digits. -/
import Derived.Test.YtckadkobgmnoeaaDoorPrA
namespace Go.Proofs.YtckadkobgmnoeaaDoor
open Go.RowKit

def Tab15 (w : World) : Prop := w.cell? ⟨6, 15, none⟩ = some (.int .u8 4)
theorem addr_addN (g p m : Nat) : (⟨g, p, none⟩ : Addr).add m = ⟨g, p + m, none⟩ := by
  unfold Addr.add
  by_cases h : m = 0
  · subst h; simp
  · simp [h]
theorem Tab15.below {W w : World} (h : Tab15 W) (hb : Below W.heap.size W w) : Tab15 w := cell_below hb h

theorem tz_16 (W : World) (hT : Tab15 W) : Calls Tryd.prog 89 #[.int .u64 16] W fun e w' => e = .returned (.int .i64 4) ∧ w' = W := by
  have hT2 : W.cell? ⟨6, 15, none⟩ = some (.int .u8 4) := hT
  have h0 : IntKind.u64.wrap (-16) = 18446744073709551600 := by decide
  have h1 : bits .and .u64 16 18446744073709551600 = 16 := by decide
  have h2 : IntKind.u64.wrap 4573923408821661840 = 4573923408821661840 := by decide
  go_enter Tryd.func89, Tryd.ntmps89
  go_wp2_with fail
  go_ret
  exact ⟨rfl, rfl⟩
theorem slice65 (g p : Nat) (hp : p < 65) (w : World) : (Instr.sliceAt 112 (.pointer (some ⟨g, 0, none⟩)) (some (.int .i64 (p : Int))) none none).run Tryd.prog w = .ok (.slice (some ⟨g, p, none⟩) (65 - p) (65 - p)) w := by
  have hal : Tryd.prog.arrayLen 112 = 65 := by unfold Program.arrayLen; rw [Tryd.underlying112]
  have hel : Tryd.prog.elem 112 = 5 := by unfold Program.elem; rw [Tryd.underlying112]
  rw [run_sliceAt_array_l (P := Tryd.prog) w 112 ⟨g, 0, none⟩ (by rw [hal, hel]; exact Tryd.underlying112) .i64 (p : Int) (by omega) (by rw [hal]; omega), hal, hel]
  have h65 : ¬ 65 = p := by omega
  simp [go_sem, slicedAt, h65, Addr.add]
  exact fun h => h.symm
theorem tzs_16 (W : World) (hT : Tab15 W) : Calls Tryd.prog 76 #[.int .u64 16] W fun e w' => e = .returned (.int .i64 4) ∧ w' = W := by
  go_enter Tryd.func76, Tryd.ntmps76
  go_wp2_with (go_at_call 89; refine (tz_16 _ hT).mono ?_; rintro e w1 ⟨rfl, hw⟩; rw [hw]; clear hw)
  go_ret
  exact ⟨rfl, rfl⟩
theorem pow2_16 (W : World) : Calls Tryd.prog 75 #[.int .i64 16] W fun e w' => e = .returned (.bool true) ∧ w' = W := by
  have h1 : bits .and .i64 16 15 = 0 := by decide
  go_enter Tryd.func75, Tryd.ntmps75
  go_wp2_with fail
  go_ret
  exact ⟨rfl, rfl⟩

theorem and15u (a : Nat) (h : a < 18446744073709551616) : bits .and .u64 (a : Int) 15 = ((a % 16 : Nat) : Int) := by
  have := bits_and_u64_nat a 15 h (by decide)
  rw [show (15 : Nat) = 2 ^ 4 - 1 from rfl, Nat.and_two_pow_sub_one_eq_mod] at this
  exact this
theorem const36_at (d : Nat) (h : d < 16) (h2 : d < 36) : (⟨#[48, 49, 50, 51, 52, 53, 54, 55, 56, 57, 97, 98, 99, 100, 101, 102, 103, 104, 105, 106, 107, 108, 109, 110, 111, 112, 113, 114, 115, 116, 117, 118, 119, 120, 121, 122]⟩ : ByteArray)[d]'h2 = hexC d := by
  rcases (by omega : d = 0 ∨ d = 1 ∨ d = 2 ∨ d = 3 ∨ d = 4 ∨ d = 5 ∨ d = 6 ∨ d = 7 ∨ d = 8 ∨ d = 9 ∨ d = 10 ∨ d = 11 ∨ d = 12 ∨ d = 13 ∨ d = 14 ∨ d = 15) with rfl | rfl | rfl | rfl | rfl | rfl | rfl | rfl | rfl | rfl | rfl | rfl | rfl | rfl | rfl | rfl <;> rfl
theorem hex8_at (u k : Nat) (hk : k ≤ 7) : (hex8 u)[7 - k]? = some (hexC (u / 16 ^ k % 16)) := by
  rcases (by omega : k = 0 ∨ k = 1 ∨ k = 2 ∨ k = 3 ∨ k = 4 ∨ k = 5 ∨ k = 6 ∨ k = 7) with rfl | rfl | rfl | rfl | rfl | rfl | rfl | rfl
  · simp [hex8]
  all_goals rfl
theorem tail_put {l : List UInt8} {cs : Array Value} {k p : Nat} {c : UInt8} (h : ∀ j x, 8 - k ≤ j → l[j]? = some x → cs[57 + j]? = some (byV x)) (hk : k ≤ 7) (hp : k + (p + 1) = 65) (hc : l[7 - k]? = some c) (hs : cs.size = 65) : ∀ j x, 8 - (k + 1) ≤ j → l[j]? = some x → (cs.setIfInBounds p (byV c))[57 + j]? = some (byV x) := by
  intro j x hj hx
  by_cases hji : j = 7 - k
  · subst hji
    rw [hc] at hx
    cases hx
    rw [show 57 + (7 - k) = p by omega, Array.getElem?_setIfInBounds_self_of_lt (by omega)]
  · rw [Array.getElem?_setIfInBounds_ne (by omega)]
    exact h j x (by omega) hx
theorem lead_zero (u k : Nat) (hk : k ≤ 7) (hu : u / 16 ^ k < 16) : (hex8 u).take (7 - k) = List.replicate (7 - k) 48 := by
  apply List.ext_getElem?
  intro j
  rw [List.getElem?_take, List.getElem?_replicate]
  by_cases hj : j < 7 - k
  · rw [if_pos hj, if_pos hj]
    have h1 := hex8_at u (7 - j) (by omega)
    rw [show 7 - (7 - j) = j by omega] at h1
    rw [h1]
    have h2 : u / 16 ^ (7 - j) = 0 := by
      rw [show 7 - j = k + 1 + (6 - j - k) by omega, Nat.pow_add, Nat.pow_succ, ← Nat.div_div_eq_div_mul, ← Nat.div_div_eq_div_mul]
      rw [show u / 16 ^ k / 16 = 0 from Nat.div_eq_of_lt hu]
      exact Nat.zero_div _
    rw [h2]; rfl
  · rw [if_neg hj, if_neg hj]

set_option maxRecDepth 100000 in
set_option maxHeartbeats 8000000 in
/-- formatBits at base 16, nothing to append to: the digits from the first that counts. -/
theorem format_16 (u : Nat) (W : World) (hu : u < 4294967296) (hT : Tab15 W) : Calls Tryd.prog 57 #[.slice none 0 0, .int .u64 (u : Int), .int .i64 16, .bool false, .bool false] W fun e w' => ∃ k, k ≤ 7 ∧ e = .returned (.tuple #[.slice none 0 0, .string (ofL ((hex8 u).drop (7 - k)))]) ∧ (hex8 u).take (7 - k) = List.replicate (7 - k) 48 ∧ Below W.heap.size W w' := by
  go_enter Tryd.func57, Tryd.ntmps57
  go_upto_region 4 with fail
  refine name_world ?_
  intro w1 hw1
  obtain ⟨g, hg⟩ : ∃ g, g = W.heap.size := ⟨_, rfl⟩
  have x1 : Bx w1 g 112 Tryd.zeroCells112 := by rw [hw1, hg]; exact Bx.new _ _ _
  have hz : Tryd.zeroCells112.size = 65 := by kernel_rfl
  have B1 : Below W.heap.size W w1 := by rw [hw1]; exact bnew (Below.refl _ _)
  have hWg : W.heap.size ≤ g := Nat.le_of_eq hg.symm
  have hT1 : Tab15 w1 := hT.below B1
  rw [← hg]
  clear hw1 hg
  go_wp2_with (first
    | (go_at_call 75; refine (pow2_16 _).mono ?_; rintro e w2 ⟨rfl, hw⟩; rw [hw]; clear hw)
    | (go_at_call 76; refine (tzs_16 _ hT1).mono ?_; rintro e w2 ⟨rfl, hw⟩; rw [hw]; clear hw))
  go_loopw [1, 13] (fun uv pv wr => ∃ (k p v : Nat) (cs : Array Value), uv = .int .u64 (v : Int) ∧ pv = .int .i64 (p : Int) ∧ k + p = 65 ∧ k ≤ 7 ∧ v < 4294967296 ∧ cs.size = 65 ∧ Bx wr g 112 cs ∧ Below W.heap.size W wr ∧ Hid (v = u / 16 ^ k) ∧ Hid (∀ j x, 8 - k ≤ j → (hex8 u)[j]? = some x → cs[57 + j]? = some (byV x))) (fun uv _ _ => (intOf uv).toNat)
  case atStart => exact ⟨0, 65, u, _, rfl, rfl, rfl, Nat.zero_le _, hu, hz, x1, B1, Lib.hid (by simp), Lib.hid (fun j x hj hx => by have := (List.getElem?_eq_some_iff.1 hx).1; have h8 : (hex8 u).length = 8 := rfl; omega)⟩
  case round =>
    clear x1 B1 hT1 hz
    obtain ⟨k, p, v, cs, rfl, rfl, hkp, hk, hv, hcs, x, B, Hv, Hc⟩ := hrel
    obtain ⟨q, f, l⟩ := x.all
    obtain ⟨p, rfl⟩ : ∃ p', p = p' + 1 := ⟨p - 1, by omega⟩
    have pj : (wr.cell? ⟨g, p, none⟩).isSome = true := by rw [q p, Array.getElem?_eq_getElem (by omega)]; rfl
    obtain ⟨old, pj2⟩ := Option.isSome_iff_exists.1 pj
    have fj := f p
    have hp65 : p < 65 := by omega
    have hp57 : 57 ≤ p := by omega
    clear q f pj
    by_cases h16 : 16 ≤ v
    · have hk6 : k ≤ 6 := by
        by_cases h : k ≤ 6
        · exact h
        · obtain rfl : k = 7 := by omega
          have := Hv.out
          omega
      obtain ⟨d, hd⟩ : ∃ d, v % 16 = d := ⟨_, rfl⟩
      have hd16 : d < 16 := by omega
      have hd36 : d < 36 := by omega
      have hand : bits .and .u64 (v : Int) 15 = (d : Int) := by rw [and15u v (by omega), hd]
      have hix := const36_at d hd16 hd36
      have HD : Hid ((hex8 u)[7 - k]? = some (hexC d)) := Lib.hid (by rw [hex8_at u k hk, ← Hv.out, hd])
      clear hd
      go_wp2_with fail
      go_roundw
      case rel => exact ⟨k + 1, p, v / 16, cs.setIfInBounds p (byV (hexC d)), by first | rfl | go_num, by go_num, by omega, by omega, by omega, by rw [Array.size_setIfInBounds]; exact hcs, x.set p _, Below.set' hWg B, Lib.hid (by rw [Hv.out, Nat.div_div_eq_div_mul, Nat.pow_succ]), Lib.hid (tail_put Hc.out hk hkp HD.out hcs)⟩
      case measure => simp [intOf]; omega
    · obtain ⟨d, hd⟩ : ∃ d, v = d := ⟨_, rfl⟩
      have hd16 : v < 16 := by omega
      have hd36 : v < 36 := by omega
      have hix := const36_at v hd16 hd36
      have HD : Hid ((hex8 u)[7 - k]? = some (hexC v)) := Lib.hid (by rw [hex8_at u k hk, ← Hv.out, Nat.mod_eq_of_lt hd16])
      have HZ := Lib.hid (lead_zero u k hk (by rw [← Hv.out]; exact hd16))
      have x2 := x.set p (byV (hexC v))
      have HT := Lib.hid (tail_put Hc.out hk hkp HD.out hcs)
      have hsl := slice65 g p hp65
      obtain ⟨q2, f2, l2⟩ := x2.all
      have hl8 : (hex8 u).length = 8 := rfl
      have hcv := run_convert_bytes_back (P := Tryd.prog) (wr.setCell ⟨g, p, none⟩ (.int .u8 ((hexC v).toNat : Int))) 42 9 5 ⟨g, p, none⟩ (65 - p) ((hex8 u).drop (7 - k)) Tryd.underlying42 Tryd.underlying5 Tryd.underlying9 (fun m hm => by
        rw [show ((⟨g, p, none⟩ : Addr).add m) = ⟨g, p + m, none⟩ from addr_addN g p m]
        refine (q2 (p + m)).trans ?_
        rw [show p + m = 57 + (7 - k + m) by omega]
        exact HT.out (7 - k + m) _ (by omega) (by rw [← List.getElem?_drop]; exact List.getElem?_eq_getElem hm))
      rw [List.length_drop, hl8, show 8 - (7 - k) = 65 - p by omega] at hcv
      clear hd Hc q2 f2 hl8
      go_wp2_with fail
      go_ret2
      exact ⟨k, hk, rfl, HZ.out, Below.set' hWg B⟩

theorem internal_fmt16 (u : Nat) (W : World) (hu : u < 4294967296) (hT : Tab15 W) : Calls Tryd.prog 44 #[.int .u64 (u : Int), .int .i64 16] W fun e w' => ∃ k, k ≤ 7 ∧ e = .returned (.string (ofL ((hex8 u).drop (7 - k)))) ∧ (hex8 u).take (7 - k) = List.replicate (7 - k) 48 ∧ Below W.heap.size W w' := by
  go_enter Tryd.func44, Tryd.ntmps44
  go_wp2_with fail
  refine (format_16 u _ hu hT).mono ?_
  rintro e w1 ⟨k, hk, rfl, hz, B⟩
  go_wp2_with fail
  go_ret
  exact ⟨k, hk, rfl, hz, B⟩
theorem public_fmt16 (u : Nat) (W : World) (hu : u < 4294967296) (hT : Tab15 W) : Calls Tryd.prog 30 #[.int .u64 (u : Int), .int .i64 16] W fun e w' => ∃ k, k ≤ 7 ∧ e = .returned (.string (ofL ((hex8 u).drop (7 - k)))) ∧ (hex8 u).take (7 - k) = List.replicate (7 - k) 48 ∧ Below W.heap.size W w' := by
  go_enter Tryd.func30, Tryd.ntmps30
  go_wp2_with fail
  refine (internal_fmt16 u _ hu hT).mono ?_
  rintro e w1 ⟨k, hk, rfl, hz, B⟩
  go_wp2_with fail
  go_ret
  exact ⟨k, hk, rfl, hz, B⟩
theorem repeatL_one : ∀ n, Lib.repeatL [48] n = List.replicate n 48
  | 0 => rfl
  | n + 1 => by rw [Lib.repeatL, repeatL_one n, List.replicate_succ]; rfl

set_option maxRecDepth 100000 in
set_option maxHeartbeats 4000000 in
theorem ref_Hex (v : Nat) (W : World) (hv : canon v < 4294967296) (hT : Tab15 W) : Calls Tryd.prog 17 #[.float .f32 v] W fun e w' => e = .returned (.string (ofL (hex8 (canon v)))) ∧ Below W.heap.size W w' := by
  obtain ⟨b, hb⟩ : ∃ b, canon v = b := ⟨_, rfl⟩
  rw [hb] at hv ⊢
  have HB := Lib.hid hb
  clear hb
  obtain ⟨R, hR⟩ : ∃ R, ofL (hex8 b) = R := ⟨_, rfl⟩
  rw [hR]
  have HR := Lib.hid hR
  clear hR
  go_enter Tryd.func17, Tryd.ntmps17
  go_wp2_with (go_at_call 31; refine (ref_BitsOf _ _).mono ?_; rw [HB.out]; rintro e w1 ⟨rfl, hw⟩; rw [← hw]; clear hw)
  refine (public_fmt16 b _ hv hT).mono ?_
  rintro e w1 ⟨k, hk, rfl, hz, B⟩
  obtain ⟨S, hS⟩ : ∃ S, ofL ((hex8 b).drop (7 - k)) = S := ⟨_, rfl⟩
  have hSs : S.size = k + 1 := by
    rw [← hS, ofL_size, List.length_drop]
    show 8 - (7 - k) = k + 1
    omega
  rw [hS]
  have hall : R = ofL (List.replicate (7 - k) 48) ++ S := by
    rw [← HR.out, ← hS, ← hz]
    apply ByteArray.ext
    apply Array.toList_inj.1
    rw [ByteArray.data_append, Array.toList_append, ofL_list, ofL_list, ofL_list, List.take_append_drop]
  obtain ⟨m, hm⟩ : ∃ m, m + k = 7 := ⟨7 - k, by omega⟩
  rw [show 7 - k = m by omega] at hall
  have hcast : (8 : Int) - (k + 1 : Nat) = (m : Int) := by omega
  clear hS hz HR
  subst hall
  go_wp2_with fail
  rw [show (8 : Int) - ((k : Int) + 1) = (m : Int) by omega]
  have hs1 : (⟨#[48]⟩ : ByteArray).size = 1 := rfl
  refine (Tryd.strings_Repeat ⟨#[48]⟩ m _ (by omega) (by rw [hs1]; omega)).mono ?_
  rw [show (⟨#[48]⟩ : ByteArray).data.toList = [48] from rfl, repeatL_one]
  rintro e w2 ⟨rfl, B2⟩
  replace B := B.trans (B2.mono B.size)
  obtain ⟨Z, hZ⟩ : ∃ Z : ByteArray, ofL (List.replicate m 48) = Z := ⟨_, rfl⟩
  have hZs : Z.size = m := by rw [← hZ, ofL_size, List.length_replicate]
  rw [show (⟨(List.replicate m 48).toArray⟩ : ByteArray) = Z from hZ]
  have HZ2 := Lib.hid hZ
  clear hZ hcast
  go_wp2_with fail
  go_ret
  exact ⟨by rw [HZ2.out]; rfl, B⟩
end Go.Proofs.YtckadkobgmnoeaaDoor
