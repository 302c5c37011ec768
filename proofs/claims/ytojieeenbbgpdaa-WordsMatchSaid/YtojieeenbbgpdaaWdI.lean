/- strings.IndexRune of five ASCII signs: no rune of 128 or more stands among them. -/
import Derived.Test.YtojieeenbbgpdaaWdO
import Derived.Laws.Runes
import Derived.Laws.RangeString
import Derived.WalkMore
import Derived.Deep.LoopGhost
namespace Go.Proofs.Ytojieeenbbgpdaa
open Go.RowKit

theorem get_at {s : ByteArray} {i : Nat} (h : i < s.size) : s.get! i = s[i]'h := by
  simp [ByteArray.get!, getElem!_pos, h]
  rfl
/-- What the decoding of a byte of 128 or more eats: a rune of 128 or more, and bytes of 128 or more. -/
theorem decode_hi (s : ByteArray) (i : Nat) (h : i < s.size) (hb : 128 ≤ (s[i]'h).toNat) : ∃ r k, Utf8.decode s i = (r, k) ∧ 128 ≤ r ∧ r ≤ 1114111 ∧ 1 ≤ k ∧ i + k ≤ s.size ∧ ∀ j, j < k → 128 ≤ (s.get! (i + j)).toNat := by
  have e0 : s.get! (i + 0) = s[i]'h := get_at h
  obtain ⟨b0, hb0⟩ : ∃ b0, (s.get! (i + 0)).toNat = b0 := ⟨_, rfl⟩
  obtain ⟨b1, hb1⟩ : ∃ b1, (s.get! (i + 1)).toNat = b1 := ⟨_, rfl⟩
  obtain ⟨b2, hb2⟩ : ∃ b2, (s.get! (i + 2)).toNat = b2 := ⟨_, rfl⟩
  obtain ⟨b3, hb3⟩ : ∃ b3, (s.get! (i + 3)).toNat = b3 := ⟨_, rfl⟩
  have h0 : 128 ≤ b0 := by rw [← hb0, e0]; exact hb
  have l0 : b0 < 256 := by rw [← hb0]; exact (s.get! (i + 0)).toNat_lt
  have l1 : b1 < 256 := by rw [← hb1]; exact (s.get! (i + 1)).toNat_lt
  have l2 : b2 < 256 := by rw [← hb2]; exact (s.get! (i + 2)).toNat_lt
  have l3 : b3 < 256 := by rw [← hb3]; exact (s.get! (i + 3)).toNat_lt
  have one : ∀ j, j < 1 → 128 ≤ (s.get! (i + j)).toNat := fun j hj => by
    obtain rfl : j = 0 := by omega
    rw [hb0]; exact h0
  unfold Utf8.decode
  simp only [hb0, hb1, hb2, hb3]
  rw [if_neg (by omega)]
  split
  · rename_i hc
    simp only [Bool.and_eq_true, beq_iff_eq, decide_eq_true_eq] at hc
    split
    · refine ⟨_, _, rfl, by omega, by omega, by omega, by omega, fun j hj => ?_⟩
      rcases (by omega : j = 0 ∨ j = 1) with rfl | rfl
      · rw [hb0]; exact h0
      · rw [hb1]; omega
    · exact ⟨_, _, rfl, by decide, by decide, by omega, by omega, one⟩
  split
  · rename_i hc
    simp only [Bool.and_eq_true, beq_iff_eq, decide_eq_true_eq] at hc
    split
    · rename_i hv
      simp only [Bool.and_eq_true, decide_eq_true_eq] at hv
      refine ⟨_, _, rfl, by omega, by omega, by omega, by omega, fun j hj => ?_⟩
      rcases (by omega : j = 0 ∨ j = 1 ∨ j = 2) with rfl | rfl | rfl
      · rw [hb0]; exact h0
      · rw [hb1]; omega
      · rw [hb2]; omega
    · exact ⟨_, _, rfl, by decide, by decide, by omega, by omega, one⟩
  split
  · rename_i hc
    simp only [Bool.and_eq_true, beq_iff_eq, decide_eq_true_eq] at hc
    split
    · rename_i hv
      simp only [Utf8.valid, Bool.and_eq_true, Bool.or_eq_true, decide_eq_true_eq] at hv
      refine ⟨_, _, rfl, by omega, by omega, by omega, by omega, fun j hj => ?_⟩
      rcases (by omega : j = 0 ∨ j = 1 ∨ j = 2 ∨ j = 3) with rfl | rfl | rfl | rfl
      · rw [hb0]; exact h0
      · rw [hb1]; omega
      · rw [hb2]; omega
      · rw [hb3]; omega
    · exact ⟨_, _, rfl, by decide, by decide, by omega, by omega, one⟩
  · exact ⟨_, _, rfl, by decide, by decide, by omega, by omega, one⟩

/-- The bytes of a rune of 128 or more: two to four, the last one of 128 or more. -/
theorem encode_hi (r : Nat) (hr : 128 ≤ r) : ∃ e : ByteArray, Utf8.encode (r : Int) = e ∧ ∃ n, e.size = n + 1 ∧ (n = 1 ∨ n = 2 ∨ n = 3) ∧ ∃ h : n < e.size, 128 ≤ (e[n]'h).toNat := by
  have key : ∀ c : Nat, 128 ≤ c → ∃ e : ByteArray, (if c < 0x80 then (⟨#[UInt8.ofNat c]⟩ : ByteArray) else if c < 0x800 then ⟨#[UInt8.ofNat (0xC0 + c / 64), UInt8.ofNat (0x80 + c % 64)]⟩ else if c < 0x10000 then ⟨#[UInt8.ofNat (0xE0 + c / 4096), UInt8.ofNat (0x80 + c / 64 % 64), UInt8.ofNat (0x80 + c % 64)]⟩ else ⟨#[UInt8.ofNat (0xF0 + c / 262144), UInt8.ofNat (0x80 + c / 4096 % 64), UInt8.ofNat (0x80 + c / 64 % 64), UInt8.ofNat (0x80 + c % 64)]⟩) = e ∧ ∃ n, e.size = n + 1 ∧ (n = 1 ∨ n = 2 ∨ n = 3) ∧ ∃ h : n < e.size, 128 ≤ (e[n]'h).toNat := by
    intro c hc
    have hb : 128 ≤ (UInt8.ofNat (0x80 + c % 64)).toNat := by
      rw [UInt8.toNat_ofNat']; omega
    rw [if_neg (by omega)]
    split
    · exact ⟨_, rfl, 1, rfl, by omega, Nat.lt_succ_self _, hb⟩
    split
    · exact ⟨_, rfl, 2, rfl, by omega, Nat.lt_succ_self _, hb⟩
    · exact ⟨_, rfl, 3, rfl, by omega, Nat.lt_succ_self _, hb⟩
  unfold Utf8.encode
  simp only [Int.toNat_natCast]
  split
  · exact key r hr
  · exact key Utf8.runeError (by decide)

theorem ascii_index {l : List UInt8} {c : UInt8} (h : ∀ b, b ∈ l → b.toNat < 128) (hc : 128 ≤ c.toNat) : ¬ ((0 : Int) ≤ Lib.indexByte l c) := by
  have h1 := Lib.contains_iff_indexByte l c
  have h2 : l.contains c = false := by
    rw [Bool.eq_false_iff]
    intro h3
    have := h c (by simpa using h3)
    omega
  rw [h2] at h1
  exact of_decide_eq_false h1.symm

set_option maxRecDepth 100000 in
set_option maxHeartbeats 4000000 in
theorem index_rune_hi (s : ByteArray) (r : Nat) (w : World) (h5 : s.size = 5) (ha : ∀ b, b ∈ s.data.toList → b.toNat < 128) (hr : 128 ≤ r) (hr2 : r ≤ 1114111) : Calls Try.prog 21 #[.string s, .int .i32 (r : Int)] w fun e w' => e = .returned (.int .i64 (-1)) ∧ Below w.heap.size w w' := by
  have HA := Lib.hid ha
  clear ha
  have g0 : decide ((0 : Int) ≤ (r : Int)) = true := decide_eq_true (by omega)
  have g1 : decide ((r : Int) < 128) = false := decide_eq_false (by omega)
  by_cases he : r = 65533
  · subst he
    clear g0 g1
    go_enter Try.func21, Try.ntmps21
    go_wp2_with fail
    go_loopg [5, 6] s.size (fun g _ _ wx => ∃ i : Nat, i + g = s.size ∧ wx = w.iter s i)
    case atStart => exact ⟨0, by omega, rfl⟩
    case round =>
      obtain ⟨i, hig, rfl⟩ := hrel
      cases gk with
      | zero =>
        have hnx := fun ty => run_next_end (P := Try.prog) w s i ty (by omega)
        go_wp2_with fail
        go_ret
        exact ⟨rfl, (Below.refl _ _).alloc (Nat.le_refl _) _⟩
      | succ g =>
        have hlt : i < s.size := by omega
        have hnx := fun ty => run_next_ascii (P := Try.prog) w s i ty hlt (HA.out _ (by rw [List.mem_iff_getElem]; exact ⟨i, by rw [← Lib.size_eq]; exact hlt, rfl⟩))
        obtain ⟨x, hx⟩ : ∃ x, s[i]'hlt = x := ⟨_, rfl⟩
        have hx128 : x.toNat < 128 := HA.out x (by rw [← hx, List.mem_iff_getElem]; exact ⟨i, by rw [← Lib.size_eq]; exact hlt, rfl⟩)
        have hne : ((x.toNat : Int) == 65533) = false := beq_eq_false_iff_ne.2 (by omega)
        rw [hx] at hnx
        go_wp2_with fail
        go_roundg g
        case measure => omega
        case rel => exact ⟨i + 1, by omega, rfl⟩
  have he2 : ((r : Int) == 65533) = false := beq_eq_false_iff_ne.2 (by omega)
  cases hv : Lib.validRune (r : Int)
  · go_enter Try.func21, Try.ntmps21
    go_wp2_with (go_at_call 30; refine (Try.utf8_ValidRune _ _).mono ?_; rintro e w1 ⟨rfl, hw⟩; rw [hw, hv]; clear hw)
    go_ret
    exact ⟨rfl, Below.refl _ _⟩
  · obtain ⟨e, hen, n, hn, hn3, hlt, hc⟩ := encode_hi r hr
    have hcv : ∀ w, (convert 21 9 (.int .i32 (r : Int))).run Try.prog w = .ok (.string e) w := fun w => (run_convert_int_string w 21 9 .i32 r (by kernel_rfl) Try.underlying9).trans (by rw [hen])
    clear hen
    obtain ⟨c, hcc⟩ : ∃ c, e[n]'hlt = c := ⟨_, rfl⟩
    rw [hcc] at hc
    go_enter Try.func21, Try.ntmps21
    have hns : n < s.size := by omega
    obtain ⟨x, hx⟩ : ∃ x, s[n]'hns = x := ⟨_, rfl⟩
    have hx128 : x.toNat < 128 := HA.out x (by rw [← hx, List.mem_iff_getElem]; exact ⟨n, by rw [← Lib.size_eq]; exact hns, rfl⟩)
    have hneq : ((x.toNat : Int) != (c.toNat : Int)) = true := bne_iff_ne.2 (by omega)
    have hiy : ∀ a b, Lib.indexByte (s.extract a b).data.toList c < 0 := fun a b => Int.not_le.1 (ascii_index (fun x hx => HA.out x (mem_extract hx)) hc)
    have hback : ((c.toNat : Int)).toNat.toUInt8 = c := by simp
    have hw2 : IntKind.i64.wrap 2 = 2 := by decide
    have hw3 : IntKind.i64.wrap 3 = 3 := by decide
    have hw4 : IntKind.i64.wrap 4 = 4 := by decide
    rcases hn3 with rfl | rfl | rfl
    · go_wp2_with (go_at_call 30; refine (Try.utf8_ValidRune _ _).mono ?_; rintro e w1 ⟨rfl, hw⟩; rw [hw, hv]; clear hw)
      go_step3
      go_wp2_with fail
      go_loopw [9, 10] (fun av bv wr => av = .int .i64 1 ∧ bv = .int .i64 0 ∧ wr = w) (fun _ _ _ => 0)
      case atStart => exact ⟨rfl, rfl, rfl⟩
      case round =>
        obtain ⟨rfl, rfl, rfl⟩ := hrel
        go_wp2_with fail
        go_step3
        go_wp2_with fail
        go_region
        go_wp2_with fail
        go_quiet ((go_at_call 29; exact quiet_sameN ((Try.strings_IndexByte _ _ _).mono fun _ _ h => ⟨h.1, h.2.symm⟩)))
        rw [hback]
        obtain ⟨v, hv1⟩ : ∃ v, Lib.indexByte (s.extract 2 5).data.toList c = v := ⟨_, rfl⟩
        have hv2 : v < 0 := by rw [← hv1]; exact hiy _ _
        rw [hv1]
        clear hv1 hiy hback hw2 hw3 hw4
        go_wp2_with fail
        rw [Exit.noGoto_ret]
        dsimp +zetaDelta only [Exit.inBlock, Exit.noGoto, Exit.then]
        go_ret
        exact ⟨rfl, below_drewN (Below.refl _ _) _⟩
    · go_wp2_with (go_at_call 30; refine (Try.utf8_ValidRune _ _).mono ?_; rintro e w1 ⟨rfl, hw⟩; rw [hw, hv]; clear hw)
      go_step3
      go_wp2_with fail
      go_loopw [9, 10] (fun av bv wr => av = .int .i64 2 ∧ bv = .int .i64 0 ∧ wr = w) (fun _ _ _ => 0)
      case atStart => exact ⟨rfl, rfl, rfl⟩
      case round =>
        obtain ⟨rfl, rfl, rfl⟩ := hrel
        go_wp2_with fail
        go_step3
        go_wp2_with fail
        go_region
        go_wp2_with fail
        go_quiet ((go_at_call 29; exact quiet_sameN ((Try.strings_IndexByte _ _ _).mono fun _ _ h => ⟨h.1, h.2.symm⟩)))
        rw [hback]
        obtain ⟨v, hv1⟩ : ∃ v, Lib.indexByte (s.extract 3 5).data.toList c = v := ⟨_, rfl⟩
        have hv2 : v < 0 := by rw [← hv1]; exact hiy _ _
        rw [hv1]
        clear hv1 hiy hback hw2 hw3 hw4
        go_wp2_with fail
        rw [Exit.noGoto_ret]
        dsimp +zetaDelta only [Exit.inBlock, Exit.noGoto, Exit.then]
        go_ret
        exact ⟨rfl, below_drewN (Below.refl _ _) _⟩
    · go_wp2_with (go_at_call 30; refine (Try.utf8_ValidRune _ _).mono ?_; rintro e w1 ⟨rfl, hw⟩; rw [hw, hv]; clear hw)
      go_step3
      go_wp2_with fail
      go_loopw [9, 10] (fun av bv wr => av = .int .i64 3 ∧ bv = .int .i64 0 ∧ wr = w) (fun _ _ _ => 0)
      case atStart => exact ⟨rfl, rfl, rfl⟩
      case round =>
        obtain ⟨rfl, rfl, rfl⟩ := hrel
        go_wp2_with fail
        go_step3
        go_wp2_with fail
        go_region
        go_wp2_with fail
        go_quiet ((go_at_call 29; exact quiet_sameN ((Try.strings_IndexByte _ _ _).mono fun _ _ h => ⟨h.1, h.2.symm⟩)))
        rw [hback]
        obtain ⟨v, hv1⟩ : ∃ v, Lib.indexByte (s.extract 4 5).data.toList c = v := ⟨_, rfl⟩
        have hv2 : v < 0 := by rw [← hv1]; exact hiy _ _
        rw [hv1]
        clear hv1 hiy hback hw2 hw3 hw4
        go_wp2_with fail
        rw [Exit.noGoto_ret]
        dsimp +zetaDelta only [Exit.inBlock, Exit.noGoto, Exit.then]
        go_ret
        exact ⟨rfl, below_drewN (Below.refl _ _) _⟩
end Go.Proofs.Ytojieeenbbgpdaa
