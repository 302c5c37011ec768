/- Words: dyelaw1.Words. (printed by gen_wdc.py) -/
import Derived.Test.YtojieeenbbgpdaaWdB
namespace Go.Proofs.Ytojieeenbbgpdaa
open Go.RowKit

set_option maxRecDepth 100000 in
theorem law_blank (c : UInt8) (w : World) : Calls Try.prog 15 #[.int .u8 (c.toNat : Int)] w fun e w' => e = .returned (.bool (blk c)) ∧ w' = w := by
  by_cases h1 : c = 32
  · subst h1
    have hr : blk 32 = true := rfl
    rw [hr]
    go_enter Try.func15, Try.ntmps15
    go_wp2_with fail
    go_ret
    exact ⟨rfl, rfl⟩
  · have n1 : c.toNat ≠ 32 := fun h => h1 (UInt8.toNat_inj.1 h)
    have e1 : ((c.toNat : Int) == 32) = false := by simp; omega
    by_cases h2 : c = 9
    · subst h2
      have hr : blk 9 = true := rfl
      rw [hr]
      go_enter Try.func15, Try.ntmps15
      go_wp2_with fail
      go_ret
      exact ⟨rfl, rfl⟩
    · have n2 : c.toNat ≠ 9 := fun h => h2 (UInt8.toNat_inj.1 h)
      have e2 : ((c.toNat : Int) == 9) = false := by simp; omega
      have hr : blk c = false := by simp [blk, h1, h2]
      rw [hr]
      clear h1 h2 hr
      generalize (c.toNat : Int) = k at e1 e2 ⊢
      go_enter Try.func15, Try.ntmps15
      go_wp2_with fail
      go_ret
      exact ⟨rfl, rfl⟩
theorem add_one {s wd : ByteArray} {l : List UInt8} {j : Nat} (h : j < s.size) (hl : wd.data.toList = l) : (wd ++ s.extract j (j + 1)).data.toList = l ++ [s[j]] := by
  have h1 : (s.extract j (j + 1)).data.toList = [s[j]] := by
    have := word_str (s := s) (k := j) (j := j + 1)
    unfold strV at this
    simp only [Value.string.injEq] at this
    rw [this, show j + 1 - j = 0 + 1 by omega]
    show ((s.data.toList.drop j).take (0 + 1)) = _
    rw [tl_step h]; rfl
  rw [← hl, ← h1]
  simp
theorem one_size {s : ByteArray} {j : Nat} (h : j < s.size) : (s.extract j (j + 1)).size = 1 := by
  rw [ByteArray.size_extract]; omega
theorem str_list (wd : ByteArray) : Value.string wd = strV wd.data.toList := by
  unfold strV; rw [bytes_list]
/-- The quoted word read so far: l, up to k; closed or not. -/
def qS (s : ByteArray) (k : Nat) (l : List UInt8) (j : Nat) : Bool → Prop
  | false => quoted (s.data.toList.drop k) = (quoted (s.data.toList.drop j)).map fun z => (l ++ z.1, z.2)
  | true => quoted (s.data.toList.drop k) = some (l, s.data.toList.drop j)
theorem qS_start {s : ByteArray} {k : Nat} : qS s k [] k false := by
  unfold qS; simp
theorem qS_end {s : ByteArray} {k j : Nat} {l : List UInt8} (h : s.size ≤ j) (hq : qS s k l j false) : quoted (s.data.toList.drop k) = none := by
  unfold qS at hq; rw [hq, tl_end h]; rfl
theorem qS_quote {s : ByteArray} {k j : Nat} {l : List UInt8} (h : j < s.size) (hc : s[j] = 34) (hq : qS s k l j false) : qS s k l (j + 1) true := by
  unfold qS at *; rw [hq, tl_step h, hc, quoted]; simp
theorem qS_esc_end {s : ByteArray} {k j : Nat} {l : List UInt8} (h : j < s.size) (hc : s[j] = 92) (he : j + 1 = s.size) (hq : qS s k l j false) : quoted (s.data.toList.drop k) = none := by
  unfold qS at hq; rw [hq, tl_step h, hc, tl_end (Nat.le_of_eq he.symm)]; rfl
theorem qS_esc {s : ByteArray} {k j : Nat} {l : List UInt8} (h : j < s.size) (hc : s[j] = 92) (he : j + 1 < s.size) (hq : qS s k l j false) : qS s k (l ++ [if s[j + 1] = 110 then 10 else s[j + 1]]) (j + 2) false := by
  unfold qS at *; rw [hq, tl_step h, hc, tl_step he, quoted]
  cases quoted (s.data.toList.drop (j + 2)) <;> simp
theorem qS_plain {s : ByteArray} {k j : Nat} {l : List UInt8} (h : j < s.size) (h1 : s[j] ≠ 34) (h2 : s[j] ≠ 92) (hq : qS s k l j false) : qS s k (l ++ [s[j]]) (j + 1) false := by
  unfold qS at *
  rw [hq, tl_step h, quoted]
  · cases quoted (s.data.toList.drop (j + 1)) <;> simp
  · exact h1
  · intro h; exact absurd h h2
  · intro d s' h; exact absurd h h2

set_option maxRecDepth 100000 in
set_option maxHeartbeats 8000000 in
theorem law_Words (s : ByteArray) (W : World) : Calls Try.prog 6 #[.string s] W fun e w' => WOut s W e w' := by
  by_cases hbig : 4194304 < s.size
  · have hd : decide (4194304 < (s.size : Int)) = true := decide_eq_true (by omega)
    have hw : wres s = ([], 4) := by unfold wres; rw [if_pos hbig]
    unfold WOut
    rw [hw]
    go_enter Try.func6, Try.ntmps6
    go_wp2_with fail
    go_ret2
    exact ⟨_, rfl, OutV.nil _ _ _, Below.refl _ _⟩
  have hs : s.size ≤ 4194304 := by omega
  have hd : decide (4194304 < (s.size : Int)) = false := decide_eq_false (by omega)
  unfold WOut
  rw [wres_wA hs]
  obtain ⟨res, hres⟩ : ∃ res, res = wA s [] 0 := ⟨_, rfl⟩
  rw [← hres]
  have H0 := Lib.hid hres
  clear hres
  go_enter Try.func6, Try.ntmps6
  go_wp2_with fail
  clear hbig hd
  go_loopw [5, 6] (fun v j wr => ∃ (k : Nat) (L : List (List UInt8)), j = .int .i64 (k : Int) ∧ k ≤ s.size ∧ L.length ≤ k ∧ OutV W.heap.size wr 9 v (L.map strV) ∧ Hid (res = wA s L k) ∧ Below W.heap.size W wr) (fun _ j _ => s.size + 1 - (intOf j).toNat)
  case atStart => exact ⟨0, [], rfl, Nat.zero_le _, Nat.zero_le _, OutV.nil _ _ _, H0, Below.refl _ _⟩
  case round =>
    clear H0
    obtain ⟨k, L, rfl, hk, hl, ho, Hr, B⟩ := hrel
    by_cases hlt : k < s.size
    rotate_left
    · have hv := Hr.out
      rw [wA_end (by omega)] at hv
      subst hv
      have hd : decide ((k : Int) < (s.size : Int)) = false := decide_eq_false (by omega)
      clear Hr
      go_wp2_with fail
      go_ret2
      exact ⟨_, rfl, ho, B⟩
    obtain ⟨c, hc⟩ : ∃ c, s[k]'hlt = c := ⟨_, rfl⟩
    cases hb : blk c
    rotate_left
    · have hr2 := Hr.out
      rw [wA_blank hlt (by rw [hc]; exact hb)] at hr2
      have Hr2 := Lib.hid hr2
      clear hr2 Hr
      go_wp2_with (go_at_call 15; refine (law_blank c _).mono ?_; rintro e w1 ⟨rfl, hw⟩; rw [hw, hb]; clear hw)
      go_roundw
      case rel => exact ⟨k + 1, L, by go_num, by omega, by omega, ho, Hr2, B⟩
      case measure => simp [intOf]; omega
    by_cases h34 : c = 34
    · have e1 : ((c.toNat : Int) != 34) = false := by rw [h34]; rfl
      have hc34 := Lib.hid (hc.trans h34)
      clear h34
      go_upto_region 17 with (go_at_call 15; refine (law_blank c _).mono ?_; rintro e w1 ⟨rfl, hw⟩; rw [hw, hb]; clear hw)
      clear hb e1 hc
      go_wp2_with fail
      refine name_world ?_
      intro w5 hw5
      rw [← hw5] at ho B
      clear hw5
      have hk1 : k + 1 ≤ s.size := hlt
      go_loopw [6, 7, 8] (fun i wv cl wr' => ∃ (jn : Nat) (wd : ByteArray) (l : List UInt8) (b : Bool), i = .int .i64 (jn : Int) ∧ wv = .string wd ∧ cl = .bool b ∧ k + 1 ≤ jn ∧ jn ≤ s.size ∧ wd.size ≤ jn ∧ Hid (wd.data.toList = l) ∧ Hid (qS s (k + 1) l jn b) ∧ OutV W.heap.size wr' 9 u5 (L.map strV) ∧ Below W.heap.size W wr') (fun i _ _ _ => s.size + 1 - (intOf i).toNat)
      case atStart => exact ⟨k + 1, ⟨#[]⟩, [], false, by go_num, rfl, rfl, by omega, hk1, Nat.zero_le _, Lib.hid rfl, Lib.hid qS_start, ho, B⟩
      case round =>
        clear ho B
        obtain ⟨jn, wd, l, b, rfl, rfl, rfl, hkj, hjs, hwd, Hw, Hq, ho, B⟩ := hrel
        cases b
        rotate_left
        · by_cases hme : jn = s.size
          · have hd : decide ((jn : Int) < (s.size : Int)) = false := decide_eq_false (by omega)
            have hr2 := Hr.out
            rw [wA_quote hlt hc34.out Hq.out (by rw [tl_end (by omega)]; rfl)] at hr2
            have Hr2 := Lib.hid hr2
            clear hr2 Hr Hq
            go_upto_region 34 with (fail)
            go_wp2_with (at_builtin; refine ov_append infoS Try.underlying22 rfl (x := .string wd) rfl (.tmp 126) (.tmp 128) rfl rfl wr.heap.size 1 rfl (ho.below below_al) (Bx.new wr 9 #[.string wd]) rfl ?pa ?pb ?pc ?_)
            case pa => rw [List.length_map]; omega
            case pb => rw [List.length_map]; omega
            case pc => exact Nat.le_trans B.size below_al.size
            intro v5 w8 ho5 hb5
            have B5 := hb5 _ _ (Nat.le_refl _) (bnew B)
            rw [show L.map strV ++ [.string wd] = (L ++ [l]).map strV by rw [List.map_append, List.map_singleton, str_list wd, Hw.out]] at ho5
            clear hb5 ho
            go_wp2_with fail
            go_roundw
            case rel => exact ⟨jn, L ++ [l], by first | rfl | rw [hme], by omega, by rw [List.length_append, List.length_singleton]; omega, ho5, Hr2, B5⟩
            case measure => simp [intOf]; omega
          · have hmlt : jn < s.size := by omega
            have hd : decide ((jn : Int) < (s.size : Int)) = true := decide_eq_true (by omega)
            obtain ⟨c2, hc2⟩ : ∃ c, s[jn]'hmlt = c := ⟨_, rfl⟩
            cases hb2 : blk c2
            · have hv := Hr.out
              rw [wA_quote_bad hlt hc34.out Hq.out (by rw [tl_step hmlt, hc2]; exact hb2)] at hv
              subst hv
              clear Hr Hq ho
              go_upto_region 33 with (go_at_call 15; refine (law_blank c2 _).mono ?_; rintro e w1 ⟨rfl, hw⟩; rw [hw, hb2]; clear hw)
              go_wp2_with fail
              go_ret2
              exact ⟨_, rfl, OutV.nil _ _ _, B⟩
            · have hr2 := Hr.out
              rw [wA_quote hlt hc34.out Hq.out (by rw [tl_step hmlt, hc2]; exact hb2)] at hr2
              have Hr2 := Lib.hid hr2
              clear hr2 Hr Hq
              go_upto_region 34 with (go_at_call 15; refine (law_blank c2 _).mono ?_; rintro e w1 ⟨rfl, hw⟩; rw [hw, hb2]; clear hw)
              go_wp2_with (at_builtin; refine ov_append infoS Try.underlying22 rfl (x := .string wd) rfl (.tmp 126) (.tmp 128) rfl rfl wr.heap.size 1 rfl (ho.below below_al) (Bx.new wr 9 #[.string wd]) rfl ?qa ?qb ?qc ?_)
              case qa => rw [List.length_map]; omega
              case qb => rw [List.length_map]; omega
              case qc => exact Nat.le_trans B.size below_al.size
              intro v5 w8 ho5 hb5
              have B5 := hb5 _ _ (Nat.le_refl _) (bnew B)
              rw [show L.map strV ++ [.string wd] = (L ++ [l]).map strV by rw [List.map_append, List.map_singleton, str_list wd, Hw.out]] at ho5
              clear hb5 ho
              go_wp2_with fail
              go_roundw
              case rel => exact ⟨jn, L ++ [l], by first | rfl | rw [hme], by omega, by rw [List.length_append, List.length_singleton]; omega, ho5, Hr2, B5⟩
              case measure => simp [intOf]; omega
        by_cases hlj : jn < s.size
        rotate_left
        · have hd : decide ((jn : Int) < (s.size : Int)) = false := decide_eq_false (by omega)
          have hv := Hr.out
          rw [wA_quote_none hlt hc34.out (qS_end (by omega) Hq.out)] at hv
          subst hv
          clear Hr Hq ho
          go_wp2_with fail
          go_ret2
          exact ⟨_, rfl, OutV.nil _ _ _, B⟩
        obtain ⟨c, hc⟩ : ∃ c, s[jn]'hlj = c := ⟨_, rfl⟩
        by_cases h34 : c = 34
        · have e1 : ((c.toNat : Int) == 34) = true := by rw [h34]; rfl
          have hq2 := qS_quote hlj (hc.trans h34) Hq.out
          have Hq2 := Lib.hid hq2
          clear hq2 Hq h34
          go_wp2_with fail
          go_roundw
          case rel => exact ⟨jn + 1, wd, l, true, by go_num, rfl, rfl, by omega, by omega, by omega, Hw, Hq2, ho, B⟩
          case measure => simp [intOf]; omega
        have e1 : ((c.toNat : Int) == 34) = false := byte_ne (n := 34) (by decide) h34
        by_cases h92 : c = 92
        · have e2 : ((c.toNat : Int) == 92) = true := by rw [h92]; rfl
          by_cases hend : jn + 1 = s.size
          · have e3 : decide ((jn : Int) + 1 < (s.size : Int)) = false := decide_eq_false (by omega)
            have hv := Hr.out
            rw [wA_quote_none hlt hc34.out (qS_esc_end hlj (hc.trans h92) hend Hq.out)] at hv
            subst hv
            clear Hr Hq ho h34 h92
            go_wp2_with fail
            go_ret2
            exact ⟨_, rfl, OutV.nil _ _ _, B⟩
          have hlt1 : jn + 1 < s.size := by omega
          have e3 : decide ((jn : Int) + 1 < (s.size : Int)) = true := decide_eq_true (by omega)
          have hq2 := qS_esc hlj (hc.trans h92) hlt1 Hq.out
          obtain ⟨d, hd⟩ : ∃ d, s[jn + 1]'hlt1 = d := ⟨_, rfl⟩
          by_cases h110 : d = 110
          · have e4 : ((d.toNat : Int) == 110) = true := by rw [h110]; rfl
            rw [if_pos (hd.trans h110)] at hq2
            have Hq2 := Lib.hid hq2
            have hz : (⟨#[10]⟩ : ByteArray).size = 1 := rfl
            clear hq2 Hq h34 h92 h110 hend
            go_wp2_with fail
            go_roundw
            case rel => exact ⟨jn + 2, wd ++ ⟨#[10]⟩, l ++ [10], false, by go_num, rfl, rfl, by omega, by omega, by rw [ByteArray.size_append, hz]; omega, Lib.hid (by rw [← Hw.out]; simp), Hq2, ho, B⟩
            case measure => simp [intOf]; omega
          · have e4 : ((d.toNat : Int) == 110) = false := byte_ne (n := 110) (by decide) h110
            rw [if_neg (by rw [hd]; exact h110)] at hq2
            have Hq2 := Lib.hid hq2
            have hz := one_size hlt1
            have Hw2 := Lib.hid (add_one hlt1 Hw.out)
            clear hq2 Hq h34 h92 h110 hend
            go_wp2_with fail
            go_roundw
            case rel => exact ⟨jn + 2, wd ++ s.extract (jn + 1) (jn + 1 + 1), l ++ [s[jn + 1]'hlt1], false, by go_num, rfl, rfl, by omega, by omega, by rw [ByteArray.size_append, hz]; omega, Hw2, Hq2, ho, B⟩
            case measure => simp [intOf]; omega
        · have e2 : ((c.toNat : Int) == 92) = false := byte_ne (n := 92) (by decide) h92
          have hq2 := qS_plain hlj (by rw [hc]; exact h34) (by rw [hc]; exact h92) Hq.out
          have Hq2 := Lib.hid hq2
          have hz := one_size hlj
          have Hw2 := Lib.hid (add_one hlj Hw.out)
          clear hq2 Hq h34 h92
          go_wp2_with fail
          go_roundw
          case rel => exact ⟨jn + 1, wd ++ s.extract jn (jn + 1), l ++ [s[jn]'hlj], false, by go_num, rfl, rfl, by omega, by omega, by rw [ByteArray.size_append, hz]; omega, Hw2, Hq2, ho, B⟩
          case measure => simp [intOf]; omega
    have e0 : ((c.toNat : Int) == 34) = false := byte_ne (n := 34) (by decide) h34
    have e1 : ((c.toNat : Int) != 34) = true := by rw [bne, e0]; rfl
    have Hk := Lib.hid (And.intro (show blk (s[k]'hlt) = false by rw [hc]; exact hb) (show s[k]'hlt ≠ 34 by rw [hc]; exact h34))
    go_upto_region 10 with (go_at_call 15; refine (law_blank c _).mono ?_; rintro e w1 ⟨rfl, hw⟩; rw [hw, hb]; clear hw)
    clear h34
    go_wp2_with fail
    clear hb e0 e1 hc
    refine name_world ?_
    intro w5 hw5
    rw [← hw5] at ho B
    clear hw5
    go_loopw [6, 7] (fun i wv wr' => ∃ (jn : Nat) (wd : ByteArray), i = .int .i64 (jn : Int) ∧ wv = .string wd ∧ k ≤ jn ∧ jn ≤ s.size ∧ wd.size ≤ jn ∧ Hid (wd.data.toList = (s.data.toList.drop k).take (jn - k)) ∧ Hid (bare (s.data.toList.drop k) = bA s k jn) ∧ Hid (jn = k ∨ k < jn) ∧ OutV W.heap.size wr' 9 u5 (L.map strV) ∧ Below W.heap.size W wr') (fun i _ _ => s.size + 1 - (intOf i).toNat)
    case atStart => exact ⟨k, ⟨#[]⟩, rfl, rfl, Nat.le_refl _, hk, Nat.zero_le _, Lib.hid (by rw [Nat.sub_self]; rfl), Lib.hid bA_start, Lib.hid (.inl rfl), ho, B⟩
    case round =>
      clear ho B
      obtain ⟨jn, wd, rfl, rfl, hkj, hjs, hwd, Hw, Hb, Hkj, ho, B⟩ := hrel
      by_cases hlj : jn < s.size
      rotate_left
      · have hd : decide ((jn : Int) < (s.size : Int)) = false := decide_eq_false (by omega)
        have hkn : k < jn := by omega
        have hr2 := Hr.out
        rw [wA_bare hlt Hk.out.1 Hk.out.2 (Hb.out.trans (bA_end (by omega)))] at hr2
        have Hr2 := Lib.hid hr2
        clear hr2 Hr Hb Hk
        go_upto_region 16 with fail
        go_wp2_with (at_builtin; refine ov_append infoS Try.underlying22 rfl (x := .string wd) rfl (.tmp 53) (.tmp 55) rfl rfl wr.heap.size 1 rfl (ho.below below_al) (Bx.new wr 9 #[.string wd]) rfl ?ua ?ub ?uc ?_)
        case ua => rw [List.length_map]; omega
        case ub => rw [List.length_map]; omega
        case uc => exact Nat.le_trans B.size below_al.size
        intro v5 w7 ho5 hb5
        have B5 := hb5 _ _ (Nat.le_refl _) (bnew B)
        rw [show L.map strV ++ [.string wd] = (L ++ [(s.data.toList.drop k).take (jn - k)]).map strV by rw [List.map_append, List.map_singleton, str_list wd, Hw.out]] at ho5
        clear hb5 ho
        go_wp2_with fail
        go_roundw
        case rel => exact ⟨jn, L ++ [(s.data.toList.drop k).take (jn - k)], by first | rfl | (rw [show jn = s.size by omega]), by omega, by rw [List.length_append, List.length_singleton]; omega, ho5, Hr2, B5⟩
        case measure => simp [intOf]; omega
      obtain ⟨c, hc⟩ : ∃ c, s[jn]'hlj = c := ⟨_, rfl⟩
      cases hb : blk c
      rotate_left
      · have hkn : k < jn := by
          rcases Hkj.out with h | h
          · subst h; have := Hk.out.1; rw [hc, hb] at this; cases this
          · exact h
        have hr2 := Hr.out
        rw [wA_bare hlt Hk.out.1 Hk.out.2 (Hb.out.trans (bA_blank hlj (by rw [hc]; exact hb)))] at hr2
        have Hr2 := Lib.hid hr2
        clear hr2 Hr Hb Hk
        go_upto_region 16 with (go_at_call 15; refine (law_blank c _).mono ?_; rintro e w1 ⟨rfl, hw⟩; rw [hw, hb]; clear hw)
        go_wp2_with (at_builtin; refine ov_append infoS Try.underlying22 rfl (x := .string wd) rfl (.tmp 53) (.tmp 55) rfl rfl wr.heap.size 1 rfl (ho.below below_al) (Bx.new wr 9 #[.string wd]) rfl ?ta ?tb ?tc ?_)
        case ta => rw [List.length_map]; omega
        case tb => rw [List.length_map]; omega
        case tc => exact Nat.le_trans B.size below_al.size
        intro v5 w7 ho5 hb5
        have B5 := hb5 _ _ (Nat.le_refl _) (bnew B)
        rw [show L.map strV ++ [.string wd] = (L ++ [(s.data.toList.drop k).take (jn - k)]).map strV by rw [List.map_append, List.map_singleton, str_list wd, Hw.out]] at ho5
        clear hb5 ho
        go_wp2_with fail
        go_roundw
        case rel => exact ⟨jn, L ++ [(s.data.toList.drop k).take (jn - k)], rfl, by omega, by rw [List.length_append, List.length_singleton]; omega, ho5, Hr2, B5⟩
        case measure => simp [intOf]; omega
      by_cases h34 : c = 34
      · have e1 : ((c.toNat : Int) == 34) = true := by rw [h34]; rfl
        have hv := Hr.out
        rw [wA_bare_none hlt Hk.out.1 Hk.out.2 (Hb.out.trans (bA_quote hlj (Eq.trans hc h34)))] at hv
        subst hv
        clear h34 Hr Hb Hk ho
        go_upto_region 13 with (go_at_call 15; refine (law_blank c _).mono ?_; rintro e w1 ⟨rfl, hw⟩; rw [hw, hb]; clear hw)
        go_wp2_with fail
        go_ret2
        exact ⟨_, rfl, OutV.nil _ _ _, B⟩
      · have e1 : ((c.toNat : Int) == 34) = false := byte_ne (n := 34) (by decide) h34
        have hb2 := Hb.out
        rw [bA_step hkj hlj (by rw [hc]; exact hb) (by rw [hc]; exact h34)] at hb2
        have Hb2 := Lib.hid hb2
        have hz := one_size hlj
        have Hw2 := Lib.hid ((add_one hlj Hw.out).trans (word_step hkj hlj).symm)
        clear hb2 Hb h34
        go_wp2_with (go_at_call 15; refine (law_blank c _).mono ?_; rintro e w1 ⟨rfl, hw⟩; rw [hw, hb]; clear hw)
        go_roundw
        case rel => exact ⟨jn + 1, wd ++ s.extract jn (jn + 1), by go_num, rfl, by omega, by omega, by rw [ByteArray.size_append, hz]; omega, Hw2, Hb2, Lib.hid (.inr (by omega)), ho, B⟩
        case measure => simp [intOf]; omega
end Go.Proofs.Ytojieeenbbgpdaa
