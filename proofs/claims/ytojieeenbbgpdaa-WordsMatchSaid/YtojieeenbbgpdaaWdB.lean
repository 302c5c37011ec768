/- Words: house.Words. -/
import Derived.Test.YtojieeenbbgpdaaWdA
namespace Go.Proofs.Ytojieeenbbgpdaa
open Go.RowKit

/-- What Words gives: the words and the error. -/
def wres (s : ByteArray) : List (List UInt8) × Int :=
  if 4194304 < s.size then ([], 4) else match wordsL s.data.toList with
    | none => ([], 9)
    | some ws => (ws, 0)
/-- The same from k on, where L was read ahead. -/
def wA (s : ByteArray) (L : List (List UInt8)) (k : Nat) : List (List UInt8) × Int :=
  match wordsL (s.data.toList.drop k) with
    | none => ([], 9)
    | some ws => (L ++ ws, 0)
theorem wres_wA {s : ByteArray} (h : s.size ≤ 4194304) : wres s = wA s [] 0 := by
  unfold wres wA
  rw [if_neg (by omega), List.drop_zero]
  cases wordsL s.data.toList <;> rfl
theorem wA_end {s : ByteArray} {L : List (List UInt8)} {k : Nat} (h : s.size ≤ k) : wA s L k = (L, 0) := by
  unfold wA; rw [tl_end h, wordsL_nil]; simp
theorem wA_blank {s : ByteArray} {L : List (List UInt8)} {k : Nat} (h : k < s.size) (hc : blk s[k] = true) : wA s L k = wA s L (k + 1) := by
  unfold wA; rw [tl_step h, wordsL_blank hc]
theorem wA_quote_none {s : ByteArray} {L : List (List UInt8)} {k : Nat} (h : k < s.size) (hc : s[k] = 34) (hq : quoted (s.data.toList.drop (k + 1)) = none) : wA s L k = ([], 9) := by
  unfold wA; rw [tl_step h, hc, wordsL_quote, hq]
theorem wA_quote_bad {s : ByteArray} {L : List (List UInt8)} {k : Nat} {w r : List UInt8} (h : k < s.size) (hc : s[k] = 34) (hq : quoted (s.data.toList.drop (k + 1)) = some (w, r)) (he : endOk r = false) : wA s L k = ([], 9) := by
  unfold wA; rw [tl_step h, hc, wordsL_quote, hq]; simp only; rw [he]; rfl
theorem wA_quote {s : ByteArray} {L : List (List UInt8)} {k m : Nat} {w : List UInt8} (h : k < s.size) (hc : s[k] = 34) (hq : quoted (s.data.toList.drop (k + 1)) = some (w, s.data.toList.drop m)) (he : endOk (s.data.toList.drop m) = true) : wA s L k = wA s (L ++ [w]) m := by
  unfold wA; rw [tl_step h, hc, wordsL_quote, hq]; simp only; rw [he, if_pos rfl]
  cases wordsL (s.data.toList.drop m) with
  | none => rfl
  | some z => simp
/-- The word read so far (from k to j) ahead of what follows. -/
def bA (s : ByteArray) (k j : Nat) : Option (List UInt8 × List UInt8) := (bare (s.data.toList.drop j)).map fun z => ((s.data.toList.drop k).take (j - k) ++ z.1, z.2)
theorem bA_start {s : ByteArray} {k : Nat} : bare (s.data.toList.drop k) = bA s k k := by
  unfold bA; rw [Nat.sub_self, List.take_zero]; simp
theorem bA_end {s : ByteArray} {k j : Nat} (h : s.size ≤ j) : bA s k j = some ((s.data.toList.drop k).take (j - k), s.data.toList.drop j) := by
  unfold bA; rw [tl_end h]; simp [bare]
theorem bA_blank {s : ByteArray} {k j : Nat} (h : j < s.size) (hc : blk s[j] = true) : bA s k j = some ((s.data.toList.drop k).take (j - k), s.data.toList.drop j) := by
  unfold bA; rw [tl_step h, bare, if_pos hc]; simp
theorem bA_quote {s : ByteArray} {k j : Nat} (h : j < s.size) (hc : s[j] = 34) : bA s k j = none := by
  unfold bA; rw [tl_step h, hc, bare, if_neg (by decide), if_pos rfl]; rfl
theorem word_step {s : ByteArray} {k j : Nat} (hk : k ≤ j) (h : j < s.size) : (s.data.toList.drop k).take (j + 1 - k) = (s.data.toList.drop k).take (j - k) ++ [s[j]] := by
  have hl : j - k < (s.data.toList.drop k).length := by rw [tl_len]; omega
  rw [show j + 1 - k = (j - k) + 1 by omega, take_one hl, List.getElem_drop]
  congr 2
  have : k + (j - k) = j := by omega
  simp only [this]; rfl
theorem bA_step {s : ByteArray} {k j : Nat} (hk : k ≤ j) (h : j < s.size) (h1 : blk s[j] = false) (h2 : s[j] ≠ 34) : bA s k j = bA s k (j + 1) := by
  unfold bA
  rw [tl_step h, bare, if_neg (by rw [h1]; simp), if_neg h2, word_step hk h]
  cases bare (s.data.toList.drop (j + 1)) <;> simp
theorem wA_bare_none {s : ByteArray} {L : List (List UInt8)} {k : Nat} (h : k < s.size) (h1 : blk s[k] = false) (h2 : s[k] ≠ 34) (hb : bare (s.data.toList.drop k) = none) : wA s L k = ([], 9) := by
  unfold wA; rw [tl_step h] at *; rw [wordsL_bare h1 h2, hb]
theorem wA_bare {s : ByteArray} {L : List (List UInt8)} {k j : Nat} {w : List UInt8} (h : k < s.size) (h1 : blk s[k] = false) (h2 : s[k] ≠ 34) (hb : bare (s.data.toList.drop k) = some (w, s.data.toList.drop j)) : wA s L k = wA s (L ++ [w]) j := by
  unfold wA; rw [tl_step h] at *; rw [wordsL_bare h1 h2, hb]
  simp only
  cases wordsL (s.data.toList.drop j) with
  | none => rfl
  | some z => simp
theorem quoted_tail : ∀ (n : Nat) (s w r : List UInt8), s.length ≤ n → quoted s = some (w, r) → r = s.drop (s.length - r.length)
  | n, [], w, r, hn, h => by simp [quoted] at h
  | n + 1, c :: s, w, r, hn, h => by
    have hlen := quoted_len _ _ w r (Nat.le_refl _) h
    rw [List.length_cons] at hn
    unfold quoted at h
    split at h
    · cases h
    · rename_i heq
      simp only [List.cons.injEq] at heq
      obtain ⟨rfl, rfl⟩ := heq
      simp only [Option.some.injEq, Prod.mk.injEq] at h
      obtain ⟨rfl, rfl⟩ := h
      rw [List.length_cons, show s.length + 1 - s.length = 1 by omega]; rfl
    · cases h
    · rename_i d s' heq
      simp only [List.cons.injEq] at heq
      obtain ⟨rfl, rfl⟩ := heq
      rw [Option.map_eq_some_iff] at h
      obtain ⟨⟨w', r'⟩, h1, h2⟩ := h
      simp only [Prod.mk.injEq] at h2
      obtain ⟨rfl, rfl⟩ := h2
      have h3 := quoted_tail n s' w' r' (by simp at hn; omega) h1
      have h4 := quoted_len _ s' w' r' (Nat.le_refl _) h1
      rw [List.length_cons, List.length_cons, show s'.length + 1 + 1 - r'.length = (s'.length - r'.length) + 1 + 1 by omega, List.drop_succ_cons, List.drop_succ_cons]
      exact h3
    · rename_i heq
      simp only [List.cons.injEq] at heq
      obtain ⟨rfl, rfl⟩ := heq
      rw [Option.map_eq_some_iff] at h
      obtain ⟨⟨w', r'⟩, h1, h2⟩ := h
      simp only [Prod.mk.injEq] at h2
      obtain ⟨rfl, rfl⟩ := h2
      have h3 := quoted_tail n _ w' r' (by omega) h1
      have h4 := quoted_len _ _ w' r' (Nat.le_refl _) h1
      rw [List.length_cons, Nat.succ_sub (by omega), List.drop_succ_cons]
      exact h3
/-- A quoted word ends within the line. -/
theorem quoted_at {s : ByteArray} {k : Nat} {w r : List UInt8} (hk : k ≤ s.size) (h : quoted (s.data.toList.drop k) = some (w, r)) : r = s.data.toList.drop (s.size - r.length) ∧ k < s.size - r.length ∧ r.length ≤ s.size := by
  have h1 := quoted_tail _ _ w r (Nat.le_refl _) h
  have h2 := quoted_len _ _ w r (Nat.le_refl _) h
  rw [tl_len] at h1 h2
  refine ⟨?_, by omega, by omega⟩
  rw [List.drop_drop] at h1
  rw [show k + (s.size - k - r.length) = s.size - r.length by omega] at h1
  exact h1
theorem word_str {s : ByteArray} {k j : Nat} : Value.string (s.extract k j) = strV ((s.data.toList.drop k).take (j - k)) := by
  unfold strV
  congr 1
  conv => lhs; rw [← bytes_list s]
  exact ByteArray.extract_mk _ _ _
theorem house_quoted_at (s : ByteArray) (i : Nat) (x : Int) (W : World) (hs : s.size ≤ 4194304) (hi : i ≤ s.size) (hx : x = (i : Int)) : Calls Try.prog 14 #[.string s, .int .i64 x] W fun e w' => e = .returned (qA s [] i) ∧ Below W.heap.size W w' := by
  subst hx; exact house_quoted s i W hs hi
theorem qA_none {s : ByteArray} {k : Nat} (h : quoted (s.data.toList.drop k) = none) : qA s [] k = .tuple #[.string ⟨#[]⟩, .int .i64 0, .bool false] := by
  unfold qA; rw [h]
theorem qA_some {s : ByteArray} {k : Nat} {w r : List UInt8} (h : quoted (s.data.toList.drop k) = some (w, r)) : qA s [] k = .tuple #[.string ⟨w.toArray⟩, .int .i64 ((s.size - r.length : Nat) : Int), .bool true] := by
  unfold qA; rw [h]; simp [strV]
def WOut (s : ByteArray) (W : World) (e : Ending) (w' : World) : Prop :=
  ∃ v, e = .returned (.tuple #[v, .int .i64 (wres s).2]) ∧ OutV W.heap.size w' 9 v ((wres s).1.map strV) ∧ Below W.heap.size W w'

set_option maxRecDepth 100000 in
set_option maxHeartbeats 8000000 in
theorem house_Words (s : ByteArray) (W : World) : Calls Try.prog 5 #[.string s] W fun e w' => WOut s W e w' := by
  by_cases hbig : 4194304 < s.size
  · have hd : decide (4194304 < (s.size : Int)) = true := decide_eq_true (by omega)
    have hw : wres s = ([], 4) := by unfold wres; rw [if_pos hbig]
    unfold WOut
    rw [hw]
    go_enter Try.func5, Try.ntmps5
    go_wp2_with fail
    go_ret2
    exact ⟨_, rfl, OutV.nil _ _ _, Below.refl _ _⟩
  have hs : s.size ≤ 4194304 := by omega
  have hd : decide (4194304 < (s.size : Int)) = false := decide_eq_false (by omega)
  unfold WOut
  rw [wres_wA hs]
  obtain ⟨res, hres⟩ : ∃ res, res = wA s [] 0 := ⟨_, rfl⟩
  rw [← hres]
  have H0 := Lib.hid hres
  clear hres
  go_enter Try.func5, Try.ntmps5
  go_wp2_with fail
  clear hbig hd
  go_loopw [4, 5] (fun v j wr => ∃ (k : Nat) (L : List (List UInt8)), j = .int .i64 (k : Int) ∧ k ≤ s.size ∧ L.length ≤ k ∧ OutV W.heap.size wr 9 v (L.map strV) ∧ Hid (res = wA s L k) ∧ Below W.heap.size W wr) (fun _ j _ => s.size + 1 - (intOf j).toNat)
  case atStart => exact ⟨0, [], rfl, Nat.zero_le _, Nat.zero_le _, OutV.nil _ _ _, H0, Below.refl _ _⟩
  case round =>
    clear H0
    obtain ⟨k, L, rfl, hk, hl, ho, Hr, B⟩ := hrel
    by_cases hlt : k < s.size
    rotate_left
    · have hv := Hr.out
      rw [wA_end (by omega)] at hv
      subst hv
      have hd : decide ((k : Int) < (s.size : Int)) = false := decide_eq_false (by omega)
      clear Hr
      go_wp2_with fail
      go_ret2
      exact ⟨_, rfl, ho, B⟩
    obtain ⟨c, hc⟩ : ∃ c, s[k]'hlt = c := ⟨_, rfl⟩
    cases hb : blk c
    rotate_left
    · have hr2 := Hr.out
      rw [wA_blank hlt (by rw [hc]; exact hb)] at hr2
      have Hr2 := Lib.hid hr2
      clear hr2 Hr
      go_wp2_with (go_at_call 13; refine (house_blank c _).mono ?_; rintro e w1 ⟨rfl, hw⟩; rw [hw, hb]; clear hw)
      go_roundw
      case rel => exact ⟨k + 1, L, by go_num, by omega, by omega, ho, Hr2, B⟩
      case measure => simp [intOf]; omega
    by_cases h34 : c = 34
    · have e1 : ((c.toNat : Int) == 34) = true := by rw [h34]; rfl
      have hc34 := Lib.hid (hc.trans h34)
      clear h34
      go_upto_region 15 with (go_at_call 13; refine (house_blank c _).mono ?_; rintro e w1 ⟨rfl, hw⟩; rw [hw, hb]; clear hw)
      cases hq : quoted (s.data.toList.drop (k + 1)) with
      | none =>
        have hv := Hr.out
        rw [wA_quote_none hlt hc34.out hq] at hv
        subst hv
        have hqv := qA_none hq
        clear Hr hq
        go_wp2_with fail
        refine (house_quoted_at s (k + 1) ((k : Int) + 1) _ hs (by omega) (by omega)).mono ?_
        rintro e w8 ⟨he, hb8⟩
        rw [hqv] at he
        subst he
        replace B := bcall B hb8
        clear hqv ho
        go_wp2_with fail
        go_ret2
        exact ⟨_, rfl, OutV.nil _ _ _, B⟩
      | some z =>
        obtain ⟨w, r⟩ := z
        have hqv := qA_some hq
        obtain ⟨hq2, hq3, hq4⟩ := quoted_at (by omega) hq
        obtain ⟨m, hm⟩ : ∃ m, s.size - r.length = m := ⟨_, rfl⟩
        rw [hm] at hqv hq2 hq3
        have hml : m ≤ s.size := by omega
        clear hm hq4
        go_wp2_with fail
        refine (house_quoted_at s (k + 1) ((k : Int) + 1) _ hs (by omega) (by omega)).mono ?_
        rintro e w8 ⟨he, hb8⟩
        rw [hqv] at he
        subst he
        replace B := bcall B hb8
        replace ho := ho.below hb8
        clear hqv hb8 hc
        by_cases hme : m = s.size
        · have hd : decide ((m : Int) < (s.size : Int)) = false := decide_eq_false (by omega)
          have hr2 := Hr.out
          rw [wA_quote hlt hc34.out (by rw [hq, ← hq2]) (by rw [tl_end (by omega)]; rfl)] at hr2
          have Hr2 := Lib.hid hr2
          clear hr2 Hr hq hq2
          go_upto_region 18 with (fail)
          go_wp2_with (at_builtin; refine ov_append infoS Try.underlying22 rfl (x := .string ⟨w.toArray⟩) rfl (.tmp 77) (.tmp 79) rfl rfl w8.heap.size 1 rfl (ho.below below_al) (Bx.new w8 9 #[.string ⟨w.toArray⟩]) rfl ?pa ?pb ?pc ?_)
          case pa => rw [List.length_map]; omega
          case pb => rw [List.length_map]; omega
          case pc => exact Nat.le_trans B.size below_al.size
          intro v5 w7 ho5 hb5
          have B5 := hb5 _ _ (Nat.le_refl _) (bnew B)
          rw [show L.map strV ++ [.string ⟨w.toArray⟩] = (L ++ [w]).map strV by rw [List.map_append, List.map_singleton]; rfl] at ho5
          clear hb5 ho
          go_wp2_with fail
          go_roundw
          case rel => exact ⟨m, L ++ [w], by first | rfl | rw [hme], by omega, by rw [List.length_append, List.length_singleton]; omega, ho5, Hr2, B5⟩
          case measure => simp [intOf]; omega
        · have hmlt : m < s.size := by omega
          have hd : decide ((m : Int) < (s.size : Int)) = true := decide_eq_true (by omega)
          obtain ⟨c2, hc2⟩ : ∃ c, s[m]'hmlt = c := ⟨_, rfl⟩
          cases hb2 : blk c2
          · have hv := Hr.out
            rw [wA_quote_bad hlt hc34.out hq (by rw [hq2, tl_step hmlt, hc2]; exact hb2)] at hv
            subst hv
            clear Hr ho hq hq2
            go_upto_region 17 with (go_at_call 13; refine (house_blank c2 _).mono ?_; rintro e w1 ⟨rfl, hw⟩; rw [hw, hb2]; clear hw)
            go_wp2_with fail
            go_ret2
            exact ⟨_, rfl, OutV.nil _ _ _, B⟩
          · have hr2 := Hr.out
            rw [wA_quote hlt hc34.out (by rw [hq, ← hq2]) (by rw [tl_step hmlt, hc2]; exact hb2)] at hr2
            have Hr2 := Lib.hid hr2
            clear hr2 Hr hq hq2
            go_upto_region 18 with (go_at_call 13; refine (house_blank c2 _).mono ?_; rintro e w1 ⟨rfl, hw⟩; rw [hw, hb2]; clear hw)
            go_wp2_with (at_builtin; refine ov_append infoS Try.underlying22 rfl (x := .string ⟨w.toArray⟩) rfl (.tmp 77) (.tmp 79) rfl rfl w8.heap.size 1 rfl (ho.below below_al) (Bx.new w8 9 #[.string ⟨w.toArray⟩]) rfl ?qa ?qb ?qc ?_)
            case qa => rw [List.length_map]; omega
            case qb => rw [List.length_map]; omega
            case qc => exact Nat.le_trans B.size below_al.size
            intro v5 w7 ho5 hb5
            have B5 := hb5 _ _ (Nat.le_refl _) (bnew B)
            rw [show L.map strV ++ [.string ⟨w.toArray⟩] = (L ++ [w]).map strV by rw [List.map_append, List.map_singleton]; rfl] at ho5
            clear hb5 ho
            go_wp2_with fail
            go_roundw
            case rel => exact ⟨m, L ++ [w], by first | rfl | rw [hme], by omega, by rw [List.length_append, List.length_singleton]; omega, ho5, Hr2, B5⟩
            case measure => simp [intOf]; omega
    have e1 : ((c.toNat : Int) == 34) = false := byte_ne (n := 34) (by decide) h34
    have Hk := Lib.hid (And.intro (show blk (s[k]'hlt) = false by rw [hc]; exact hb) (show s[k]'hlt ≠ 34 by rw [hc]; exact h34))
    go_upto_region 6 with (go_at_call 13; refine (house_blank c _).mono ?_; rintro e w1 ⟨rfl, hw⟩; rw [hw, hb]; clear hw)
    clear hb e1 hc h34
    go_wp2_with fail
    refine name_world ?_
    intro w5 hw5
    rw [← hw5] at ho B
    clear hw5
    go_loopw [5] (fun j wr' => ∃ (jn : Nat), j = .int .i64 (jn : Int) ∧ k ≤ jn ∧ jn ≤ s.size ∧ Hid (bare (s.data.toList.drop k) = bA s k jn) ∧ Hid (jn = k ∨ k < jn) ∧ wr' = w5) (fun j _ => s.size + 1 - (intOf j).toNat)
    case atStart => exact ⟨k, rfl, Nat.le_refl _, hk, Lib.hid bA_start, Lib.hid (.inl rfl), rfl⟩
    case round =>
      obtain ⟨jn, rfl, hkj, hjs, Hb, Hkj, rfl⟩ := hrel
      by_cases hlj : jn < s.size
      rotate_left
      · have hd : decide ((jn : Int) < (s.size : Int)) = false := decide_eq_false (by omega)
        have hkn : k < jn := by omega
        have hr2 := Hr.out
        rw [wA_bare hlt Hk.out.1 Hk.out.2 (Hb.out.trans (bA_end (by omega)))] at hr2
        have Hr2 := Lib.hid hr2
        clear hr2 Hr Hb Hk
        go_upto_region 11 with fail
        go_wp2_with (at_builtin; refine ov_append infoS Try.underlying22 rfl (x := .string (s.extract k jn)) rfl (.tmp 35) (.tmp 40) rfl rfl wr.heap.size 1 rfl (ho.below below_al) (Bx.new wr 9 #[.string (s.extract k jn)]) rfl ?pa ?pb ?pc ?_)
        case pa => rw [List.length_map]; omega
        case pb => rw [List.length_map]; omega
        case pc => exact Nat.le_trans B.size below_al.size
        intro v5 w7 ho5 hb5
        have B5 := hb5 _ _ (Nat.le_refl _) (bnew B)
        rw [show L.map strV ++ [.string (s.extract k jn)] = (L ++ [(s.data.toList.drop k).take (jn - k)]).map strV by rw [List.map_append, List.map_singleton]; rw [word_str]] at ho5
        clear hb5 ho
        go_wp2_with fail
        go_roundw
        case rel => exact ⟨jn, L ++ [(s.data.toList.drop k).take (jn - k)], by first | rfl | (rw [show jn = s.size by omega]), by omega, by rw [List.length_append, List.length_singleton]; omega, ho5, Hr2, B5⟩
        case measure => simp [intOf]; omega
      obtain ⟨c, hc⟩ : ∃ c, s[jn]'hlj = c := ⟨_, rfl⟩
      cases hb : blk c
      rotate_left
      · have hkn : k < jn := by
          rcases Hkj.out with h | h
          · subst h; have := Hk.out.1; rw [hc, hb] at this; cases this
          · exact h
        have hr2 := Hr.out
        rw [wA_bare hlt Hk.out.1 Hk.out.2 (Hb.out.trans (bA_blank hlj (by rw [hc]; exact hb)))] at hr2
        have Hr2 := Lib.hid hr2
        clear hr2 Hr Hb Hk
        go_upto_region 11 with (go_at_call 13; refine (house_blank c _).mono ?_; rintro e w1 ⟨rfl, hw⟩; rw [hw, hb]; clear hw)
        go_wp2_with (at_builtin; refine ov_append infoS Try.underlying22 rfl (x := .string (s.extract k jn)) rfl (.tmp 35) (.tmp 40) rfl rfl wr.heap.size 1 rfl (ho.below below_al) (Bx.new wr 9 #[.string (s.extract k jn)]) rfl ?qa ?qb ?qc ?_)
        case qa => rw [List.length_map]; omega
        case qb => rw [List.length_map]; omega
        case qc => exact Nat.le_trans B.size below_al.size
        intro v5 w7 ho5 hb5
        have B5 := hb5 _ _ (Nat.le_refl _) (bnew B)
        rw [show L.map strV ++ [.string (s.extract k jn)] = (L ++ [(s.data.toList.drop k).take (jn - k)]).map strV by rw [List.map_append, List.map_singleton]; rw [word_str]] at ho5
        clear hb5 ho
        go_wp2_with fail
        go_roundw
        case rel => exact ⟨jn, L ++ [(s.data.toList.drop k).take (jn - k)], rfl, by omega, by rw [List.length_append, List.length_singleton]; omega, ho5, Hr2, B5⟩
        case measure => simp [intOf]; omega
      by_cases h34 : c = 34
      · have e1 : ((c.toNat : Int) == 34) = true := by rw [h34]; rfl
        have hv := Hr.out
        rw [wA_bare_none hlt Hk.out.1 Hk.out.2 (Hb.out.trans (bA_quote hlj (Eq.trans hc h34)))] at hv
        subst hv
        clear h34 Hr Hb Hk ho
        go_upto_region 9 with (go_at_call 13; refine (house_blank c _).mono ?_; rintro e w1 ⟨rfl, hw⟩; rw [hw, hb]; clear hw)
        go_wp2_with fail
        go_ret2
        exact ⟨_, rfl, OutV.nil _ _ _, B⟩
      · have e1 : ((c.toNat : Int) == 34) = false := byte_ne (n := 34) (by decide) h34
        have hb2 := Hb.out
        rw [bA_step hkj hlj (by rw [hc]; exact hb) (by rw [hc]; exact h34)] at hb2
        have Hb2 := Lib.hid hb2
        clear hb2 Hb h34
        go_wp2_with (go_at_call 13; refine (house_blank c _).mono ?_; rintro e w1 ⟨rfl, hw⟩; rw [hw, hb]; clear hw)
        go_roundw
        case rel => exact ⟨jn + 1, by go_num, by omega, by omega, Hb2, Lib.hid (.inr (by omega)), trivial⟩
        case measure => simp [intOf]; omega
end Go.Proofs.Ytojieeenbbgpdaa
