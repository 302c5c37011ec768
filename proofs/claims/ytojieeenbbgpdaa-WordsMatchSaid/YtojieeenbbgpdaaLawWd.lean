/- dyelaw1.WordsMatch: every argument. (printed by gen_lawwd.py) -/
import Derived.Test.YtojieeenbbgpdaaWdK
import Derived.Test.YtojieeenbbgpdaaWdC
import Derived.Test.YtojieeenbbgpdaaFl
import Derived.Test.YtojieeenbbgpdaaSc
namespace Go.Proofs.Ytojieeenbbgpdaa
open Go.RowKit

def cat (l : List (List UInt8)) : List UInt8 := l.flatMap fun k => quoteL k ++ [32, 9]
theorem bytesB_app (a b : List UInt8) : bytesB (a ++ b) = bytesB a ++ bytesB b := by
  unfold bytesB
  apply ByteArray.ext
  simp
theorem cat_step {L : List (List UInt8)} {i : Nat} {k : List UInt8} (h : L[i]? = some k) : cat (L.take (i + 1)) = cat (L.take i) ++ (quoteL k ++ [32, 9]) := by
  obtain ⟨hi, rfl⟩ := List.getElem?_eq_some_iff.1 h
  unfold cat
  rw [List.take_add_one, List.getElem?_eq_getElem hi, List.flatMap_append]
  simp
theorem wordsF_len : ∀ (n : Nat) (s : List UInt8) (ws : List (List UInt8)), wordsF n s = some ws → ws.length ≤ n
  | n, [], ws, h => by
    have : ws = [] := by cases n <;> simpa [wordsF] using h.symm
    rw [this]; exact Nat.zero_le _
  | 0, _ :: _, ws, h => by
    have : ws = [] := by simpa [wordsF] using h.symm
    rw [this]; exact Nat.zero_le _
  | n + 1, c :: s, ws, h => by
    rw [wordsF] at h
    split at h
    · have := wordsF_len n s ws h; omega
    · split at h
      · split at h
        · cases h
        · split at h
          · rw [Option.map_eq_some_iff] at h
            obtain ⟨ws', h1, rfl⟩ := h
            have := wordsF_len n _ ws' h1
            rw [List.length_cons]; omega
          · cases h
      · split at h
        · cases h
        · rw [Option.map_eq_some_iff] at h
          obtain ⟨ws', h1, rfl⟩ := h
          have := wordsF_len n _ ws' h1
          rw [List.length_cons]; omega
theorem wres_len (s : ByteArray) : (wres s).1.length ≤ 4194304 := by
  unfold wres
  split
  · exact Nat.zero_le _
  · rename_i hs
    split
    · exact Nat.zero_le _
    · rename_i ws hw
      have := wordsF_len _ _ _ hw
      rw [← Lib.size_eq] at this
      show ws.length ≤ _
      omega
theorem wres_cat {S : ByteArray} {l : List (List UInt8)} (h : S = bytesB (cat l)) (hs : S.size ≤ 4194304) : wres S = (l, 0) := by
  unfold wres
  rw [if_neg (by omega), h, show (bytesB (cat l)).data.toList = cat l by simp [bytesB]]
  unfold cat
  rw [words_all]

set_option maxRecDepth 100000 in
set_option maxHeartbeats 16000000 in
theorem law_WordsM (s : ByteArray) (a : Option Addr) (n c : Nat) (L : List (List UInt8)) (W : World) (hL : SlS W (.slice a n c) L) (hn : n = L.length) (hc : n ≤ c) (hc2 : c ≤ 9223372036854775807) (hk : ∀ k, k ∈ L → k.length ≤ 140737488351232) :
    Calls Try.prog 3 #[.string s, .slice a n c] W fun e w' => e = .returned (.bool true) ∧ Below W.heap.size W w' := by
  have B := Below.refl W.heap.size W
  have HK := Lib.hid hk
  clear hk
  obtain ⟨L1, n1, hr⟩ : ∃ L1 n1, wres s = (L1, n1) := ⟨_, _, rfl⟩
  have hl1 : L1.length ≤ 4194304 := by have := wres_len s; rw [hr] at this; exact this
  obtain ⟨m, hm⟩ : ∃ m, m = min n 6 := ⟨_, rfl⟩
  have hmn : m ≤ n := by omega
  have hm6 : m ≤ 6 := by omega
  have hmin : imin (n : Int) 6 = (m : Int) := by unfold imin; split <;> omega
  have hsl : ∀ w, (Instr.slice 22 (.slice a n c) none (some (.int .i64 (m : Int))) none).run Try.prog w = .ok (.slice a m c) w := fun w => by
    have := run_slice_h (P := Try.prog) w 22 a n c Try.underlying22 .i64 (m : Int) (by omega) (by omega)
    rw [this]
    cases a <;> simp [go_sem, sliced]
  have hLm : ∀ w, Below W.heap.size W w → SlS w (.slice a m c) (L.take m) := fun w hb => by
    rcases hL.below hb with ⟨h0, a', c', e⟩ | ⟨b, o, c', e1, e2, e3⟩
    · simp only [Value.slice.injEq] at e
      obtain ⟨-, e2, -⟩ := e
      exact .inl ⟨by rw [h0, List.take_nil], a, c, by rw [show m = 0 by omega]⟩
    · simp only [Value.slice.injEq] at e1
      obtain ⟨e4, -, -⟩ := e1
      refine .inr ⟨b, o, c, by rw [e4, List.length_take, show min m L.length = m by omega], e2, fun j u hu => e3 j u ?_⟩
      rw [List.getElem?_take] at hu
      split at hu
      · exact hu
      · cases hu
  have HLm := Lib.hid hLm
  have HN := Lib.hid hn
  clear hLm hm hn
  go_enter Try.func3, Try.ntmps3
  go_wp2_with (go_at_call 4; refine (law_landed _).mono ?_; rintro e w1 ⟨rfl, hw⟩; rw [← hw]; clear hw)
  refine (house_Words s _).mono ?_
  unfold WOut
  rw [hr]
  rintro e w1 ⟨v1, rfl, O1, B1⟩
  have S1 := O1.slS
  clear O1
  go_wp2_with fail
  refine (law_Words s _).mono ?_
  unfold WOut
  rw [hr]
  rintro e w2 ⟨v2, rfl, O2, B2⟩
  have S2 := O2.slS
  replace S1 := S1.below B2
  have B3 : Below W.heap.size W w2 := B1.trans (B2.mono B1.size)
  clear O2 B1 B2 B
  go_wp2_with fail
  refine (eq_words S1 S2 (by omega) (by omega)).mono ?_
  rintro e w3 ⟨rfl, q, rfl⟩
  rw [decide_eq_true rfl]
  replace B3 := below_drewN B3 q
  clear S1 S2
  go_upto_region 8 with fail
  refine name_world ?_
  intro w4 hw4
  rw [← hw4] at B3
  clear hw4
  go_wp2_with fail
  go_loopw [9, 41] (fun sv iv wr => ∃ (i : Nat) (S : ByteArray), sv = .string S ∧ iv = .int .i64 (i : Int) ∧ i ≤ m ∧ Hid (S = bytesB (cat (L.take i))) ∧ S.size ≤ i * 281474976710700 ∧ Below W.heap.size W wr) (fun _ iv _ => m - (intOf iv).toNat)
  case atStart => exact ⟨0, ⟨#[]⟩, rfl, rfl, Nat.zero_le _, Lib.hid rfl, Nat.zero_le _, B3⟩
  case round =>
    obtain ⟨i, S, rfl, rfl, hi, HS, hSz, B5⟩ := hrel
    by_cases hlt : i < m
    rotate_left
    · obtain rfl : i = m := by omega
      by_cases hbig : 4194304 < S.size
      · have hd : decide ((4194304 : Int) < (S.size : Int)) = true := decide_eq_true (by omega)
        go_wp2_with fail
        go_ret
        exact ⟨rfl, B5⟩
      · have hd : decide ((4194304 : Int) < (S.size : Int)) = false := decide_eq_false (by omega)
        have hrs := wres_cat HS.out (by omega)
        go_wp2_with fail
        refine (house_Words S _).mono ?_
        unfold WOut
        rw [hrs]
        rintro e w6 ⟨v6, rfl, O6, B6⟩
        have S6 := O6.slS
        have B7 : Below W.heap.size W w6 := B5.trans (B6.mono B5.size)
        have S7 := HLm.out w6 B7
        clear O6 B5 B6
        have hn := HN.out
        have hml : (L.take i).length ≤ 9223372036854775807 := by rw [List.length_take]; omega
        clear hn
        go_wp2_with fail
        refine (eq_words S6 S7 hml hml).mono ?_
        rintro e w7 ⟨rfl, q7, rfl⟩
        rw [decide_eq_true rfl]
        go_wp2_with fail
        go_ret
        exact ⟨rfl, below_drewN B7 _⟩
    have hn := HN.out
    rcases hL.below B5 with ⟨h0, a', c', e⟩ | ⟨b, o, c', e1, e2, e3⟩
    · simp only [Value.slice.injEq] at e
      omega
    simp only [Value.slice.injEq] at e1
    obtain ⟨rfl, -, -⟩ := e1
    obtain ⟨k, hki⟩ : ∃ k, L[i]? = some k := ⟨_, List.getElem?_eq_getElem (by omega)⟩
    clear hn
    have hcat := Lib.hid (cat_step hki)
    have hkl := HK.out k (List.mem_of_getElem? hki)
    obtain ⟨kb, hkb⟩ : ∃ kb : ByteArray, (⟨k.toArray⟩ : ByteArray) = kb := ⟨_, rfl⟩
    have hkd : kb.data.toList = k := by rw [← hkb]
    have hks : kb.size ≤ 140737488351232 := by rw [← hkb]; show k.toArray.size ≤ _; rw [List.size_toArray]; exact hkl
    have pc : wr.cell? ⟨b, o + i, none⟩ = some (.string kb) := by rw [e3 i k hki, ← hkb]; rfl
    rw [← hkd] at hcat
    replace hcat := hcat.out
    clear e3 hki hkb hkd hkl
    have hcat := Lib.hid hcat
    go_wp2_with fail
    refine (house_Quote kb _ (by omega)).mono ?_
    obtain ⟨Q, hQ⟩ : ∃ Q, bytesB (quoteL kb.data.toList) = Q := ⟨_, rfl⟩
    rw [hQ]
    have HQ := Lib.hid hQ
    clear hQ
    rintro e w6 ⟨rfl, B6⟩
    have B8 : Below W.heap.size W w6 := B5.trans (B6.mono B5.size)
    clear B6 B5 pc
    cases hem : kb.toList.isEmpty
    rotate_left
    · obtain ⟨R, hR⟩ : ∃ R : ByteArray, (⟨(esc kb.data.toList).toArray⟩ : ByteArray) = R := ⟨_, rfl⟩
      have hRs : R.size ≤ 281474976710600 := by
        rw [← hR]
        have := esc_size kb
        show (esc kb.data.toList).toArray.size ≤ _
        rw [List.size_toArray]; omega
      have hqq : Q = (⟨#[34]⟩ ++ R) ++ ⟨#[34]⟩ := by
        rw [← HQ.out, quoted_of (plain_empty hem), ← hR]
        exact bytes_two _
      subst hqq
      go_wp2_with fail
      refine name_callw ?_
      intro w2 hw2
      obtain ⟨g, hg⟩ : ∃ g, g = w6.heap.size := ⟨_, rfl⟩
      have x2 : Bx w2 g 9 onCells := by rw [hw2, hg]; exact Bx.new _ _ _
      have B2 : Below W.heap.size W w2 := by rw [hw2]; exact bnew B8
      rw [← hg]
      clear hw2 hg
      refine (new_Replacer g _ x2).mono ?_
      rintro e w3 ⟨p, b2, c2, rfl, x3, hb1, hbp, hc2, B3⟩
      go_wp2_with fail
      refine (rep_Replace p b2 c2 kb _ x3 (by have := x3.lt; omega) (by omega) hc2 (by omega)).mono ?_
      rintro e w4 ⟨rfl, B4⟩
      have B9 : Below W.heap.size W w4 := B4 _ _ (by have := B2.size; omega) (B2.trans (B3.mono B2.size))
      clear B8 B2 B3 B4 x2 x3 hc2
      rw [hR]
      go_wp2_with fail
      go_roundw
      case rel => exact ⟨i + 1, _, rfl, by go_num, by omega, Lib.hid (by rw [hcat, HS.out, bytesB_app, bytesB_app, HQ.out]; rfl), by simp only [ByteArray.size_append]; have : (⟨#[34]⟩ : ByteArray).size = 1 := rfl; have : (⟨#[32, 9]⟩ : ByteArray).size = 2 := rfl; omega, B9⟩
      case measure => simp [intOf]; omega
    · cases hsp : kb.data.toList.any special
      · have hqq : kb = Q := (quote_plain (plain_plain hem hsp)).symm.trans HQ.out
        subst hqq
        go_wp2_with fail
        refine (contains_any kb _ (by omega)).mono ?_
        rintro e w7 ⟨rfl, B7⟩
        rw [hsp]
        have B9 : Below W.heap.size W w7 := B8.trans (B7.mono B8.size)
        clear B7 B8
        go_wp2_with fail
        go_roundw
        case rel => exact ⟨i + 1, _, rfl, by go_num, by omega, Lib.hid (by rw [hcat, HS.out, bytesB_app, bytesB_app, HQ.out]; rfl), by simp only [ByteArray.size_append]; have : (⟨#[32, 9]⟩ : ByteArray).size = 2 := rfl; omega, B9⟩
        case measure => simp [intOf]; omega
      · obtain ⟨R, hR⟩ : ∃ R : ByteArray, (⟨(esc kb.data.toList).toArray⟩ : ByteArray) = R := ⟨_, rfl⟩
        have hRs : R.size ≤ 281474976710600 := by
          rw [← hR]
          have := esc_size kb
          show (esc kb.data.toList).toArray.size ≤ _
          rw [List.size_toArray]; omega
        have hqq : Q = (⟨#[34]⟩ ++ R) ++ ⟨#[34]⟩ := by
          rw [← HQ.out, quoted_of (plain_special hsp), ← hR]
          exact bytes_two _
        subst hqq
        go_wp2_with fail
        refine (contains_any kb _ (by omega)).mono ?_
        rintro e w7 ⟨rfl, B7⟩
        rw [hsp]
        replace B8 : Below W.heap.size W w7 := B8.trans (B7.mono B8.size)
        clear B7 hsp
        go_wp2_with fail
        refine name_callw ?_
        intro w2 hw2
        obtain ⟨g, hg⟩ : ∃ g, g = w7.heap.size := ⟨_, rfl⟩
        have x2 : Bx w2 g 9 onCells := by rw [hw2, hg]; exact Bx.new _ _ _
        have B2 : Below W.heap.size W w2 := by rw [hw2]; exact bnew B8
        rw [← hg]
        clear hw2 hg
        refine (new_Replacer g _ x2).mono ?_
        rintro e w3 ⟨p, b2, c2, rfl, x3, hb1, hbp, hc2, B3⟩
        go_wp2_with fail
        refine (rep_Replace p b2 c2 kb _ x3 (by have := x3.lt; omega) (by omega) hc2 (by omega)).mono ?_
        rintro e w4 ⟨rfl, B4⟩
        have B9 : Below W.heap.size W w4 := B4 _ _ (by have := B2.size; omega) (B2.trans (B3.mono B2.size))
        clear B8 B2 B3 B4 x2 x3 hc2
        rw [hR]
        go_wp2_with fail
        go_roundw
        case rel => exact ⟨i + 1, _, rfl, by go_num, by omega, Lib.hid (by rw [hcat, HS.out, bytesB_app, bytesB_app, HQ.out]; rfl), by simp only [ByteArray.size_append]; have : (⟨#[34]⟩ : ByteArray).size = 1 := rfl; have : (⟨#[32, 9]⟩ : ByteArray).size = 2 := rfl; omega, B9⟩
        case measure => simp [intOf]; omega
end Go.Proofs.Ytojieeenbbgpdaa
