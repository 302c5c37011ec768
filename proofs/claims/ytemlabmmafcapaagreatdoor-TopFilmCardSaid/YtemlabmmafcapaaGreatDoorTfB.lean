/- conform.padded, conform.day; strconv.Itoa of a small number. -/
import Derived.Test.YtemlabmmafcapaaGreatDoorTfQ
namespace Go.Proofs.YtemlabmmafcapaaGreatDoor
open Go.RowKit

theorem t_Itoa (n : Nat) (hn : n < 1000) (w : World) (E : EnvT w) : Calls Tryz.prog 13 #[.int .i64 (n : Int)] w fun e w' => e = .returned (.string (ofL (Lib.decDigits n))) ∧ Below w.heap.size w w' := by
  refine (Tryz.strconv_Itoa (n : Int) (by omega) (by omega) w E.tab).mono ?_
  rintro e w2 ⟨rfl, k, os, hw⟩
  refine ⟨?_, ?_⟩
  · rw [itoa_nat]; rfl
  · rw [hw]; exact Lib.below_grow _ _ (Nat.le_refl _) _ _
theorem dec_len {n : Nat} (hn : n < 1000) : (Lib.decDigits n).length = if n < 10 then 1 else if n < 100 then 2 else 3 := by
  rcases Nat.lt_or_ge n 10 with h1 | h1
  · rw [dec1 h1, if_pos h1]; rfl
  · rw [if_neg (by omega)]
    rcases Nat.lt_or_ge n 100 with h2 | h2
    · rw [dec2 h1 h2, if_pos h2]; rfl
    · rw [dec3 h2 hn, if_neg (by omega)]; rfl
theorem noughts_app (k : Nat) (hk : k ≤ 3) (l : List UInt8) : (⟨#[48, 48, 48]⟩ : ByteArray).extract k 3 ++ ofL l = ofL (List.replicate (3 - k) 48 ++ l) := by
  apply ofL_of
  rcases (by omega : k = 0 ∨ k = 1 ∨ k = 2 ∨ k = 3) with rfl | rfl | rfl | rfl <;> simp [ByteArray.data_append, ofL, ByteArray.data_extract]
set_option maxRecDepth 100000 in
set_option maxHeartbeats 2000000 in
theorem conform_padded (n : Nat) (hn : n < 1000) (W : World) (E : EnvT W) : Calls Tryz.prog 14 #[.int .i64 (n : Int)] W fun e w' => e = .returned (.string (ofL (pad3 n))) ∧ Below W.heap.size W w' := by
  have K := Lib.hid (fun w E => t_Itoa n hn w E)
  have hl := dec_len hn
  have hp := pad3_is hn
  generalize Lib.decDigits n = D at *
  have hsz := ofL_size D
  have hN1 := noughts_app 1 (by omega) D
  have hN2 := noughts_app 2 (by omega) D
  rcases Nat.lt_or_ge n 10 with h1 | h1
  · rw [if_pos h1] at hl
    rw [hl] at hp hsz
    rw [hp, ← hN1]
    clear hN1 hN2 hl hp
    generalize ofL D = S at *
    go_enter Tryz.func14, Tryz.ntmps14
    go_wp2_with fail
    refine (K.out _ E).mono ?_
    rintro e w1 ⟨rfl, B⟩
    go_wp2_with fail
    go_ret
    exact ⟨rfl, B⟩
  · rw [if_neg (by omega)] at hl
    rcases Nat.lt_or_ge n 100 with h2 | h2
    · rw [if_pos h2] at hl
      rw [hl] at hp hsz
      rw [hp, ← hN2]
      clear hN1 hN2 hl hp
      generalize ofL D = S at *
      go_enter Tryz.func14, Tryz.ntmps14
      go_wp2_with fail
      refine (K.out _ E).mono ?_
      rintro e w1 ⟨rfl, B⟩
      go_wp2_with fail
      go_ret
      exact ⟨rfl, B⟩
    · rw [if_neg (by omega)] at hl
      rw [hl] at hp hsz
      rw [hp, show List.replicate (3 - 3) (48 : UInt8) ++ D = D from rfl]
      clear hN1 hN2 hl hp
      generalize ofL D = S at *
      go_enter Tryz.func14, Tryz.ntmps14
      go_wp2_with fail
      refine (K.out _ E).mono ?_
      rintro e w1 ⟨rfl, B⟩
      go_wp2_with fail
      go_ret
      exact ⟨rfl, B⟩
theorem conform_day (r : Int) (hr : rateB r = true) (W : World) : Calls Tryz.prog 16 #[.int .i64 r] W fun e w' => e = .returned (.int .i64 (dayN r)) ∧ w' = W := by
  rcases rate_in hr with rfl | rfl | rfl | rfl | rfl | rfl | rfl
  all_goals
    go_enter Tryz.func16, Tryz.ntmps16
    go_wp2_with fail
    go_ret
    exact ⟨rfl, rfl⟩
end Go.Proofs.YtemlabmmafcapaaGreatDoor
