/- Words: blank (both), house.quoted. -/
import Derived.Test.YtojieeenbbgpdaaWdO
namespace Go.Proofs.Ytojieeenbbgpdaa
open Go.RowKit

set_option maxRecDepth 100000 in
theorem house_blank (c : UInt8) (w : World) : Calls Try.prog 13 #[.int .u8 (c.toNat : Int)] w fun e w' => e = .returned (.bool (blk c)) ∧ w' = w := by
  by_cases h1 : c = 32
  · subst h1
    have hr : blk 32 = true := rfl
    rw [hr]
    go_enter Try.func13, Try.ntmps13
    go_wp2_with fail
    go_ret
    exact ⟨rfl, rfl⟩
  · have n1 : c.toNat ≠ 32 := fun h => h1 (UInt8.toNat_inj.1 h)
    have e1 : ((c.toNat : Int) == 32) = false := by simp; omega
    by_cases h2 : c = 9
    · subst h2
      have hr : blk 9 = true := rfl
      rw [hr]
      go_enter Try.func13, Try.ntmps13
      go_wp2_with fail
      go_ret
      exact ⟨rfl, rfl⟩
    · have n2 : c.toNat ≠ 9 := fun h => h2 (UInt8.toNat_inj.1 h)
      have e2 : ((c.toNat : Int) == 9) = false := by simp; omega
      have hr : blk c = false := by simp [blk, h1, h2]
      rw [hr]
      clear h1 h2 hr
      generalize (c.toNat : Int) = k at e1 e2 ⊢
      go_enter Try.func13, Try.ntmps13
      go_wp2_with fail
      go_ret
      exact ⟨rfl, rfl⟩

/-- What quoted gives from k on, where l was read ahead. -/
def qA (s : ByteArray) (l : List UInt8) (k : Nat) : Value :=
  match quoted (s.data.toList.drop k) with
  | some (w, r) => .tuple #[strV (l ++ w), .int .i64 ((s.size - r.length : Nat) : Int), .bool true]
  | none => .tuple #[.string ⟨#[]⟩, .int .i64 0, .bool false]
theorem tl_step {s : ByteArray} {k : Nat} (h : k < s.size) : s.data.toList.drop k = s[k] :: s.data.toList.drop (k + 1) := by
  rw [List.drop_eq_getElem_cons (by rw [← Lib.size_eq]; exact h)]; rfl
theorem tl_end {s : ByteArray} {k : Nat} (h : s.size ≤ k) : s.data.toList.drop k = [] := List.drop_eq_nil_of_le (by rw [← Lib.size_eq]; exact h)
theorem tl_len {s : ByteArray} {k : Nat} : (s.data.toList.drop k).length = s.size - k := by rw [List.length_drop, ← Lib.size_eq]
theorem qA_end {s : ByteArray} {l : List UInt8} {k : Nat} (h : s.size ≤ k) : qA s l k = .tuple #[.string ⟨#[]⟩, .int .i64 0, .bool false] := by
  unfold qA; rw [tl_end h]; rfl
theorem qA_quote {s : ByteArray} {l : List UInt8} {k : Nat} (h : k < s.size) (hc : s[k] = 34) : qA s l k = .tuple #[strV l, .int .i64 ((k : Int) + 1), .bool true] := by
  unfold qA; rw [tl_step h, hc, quoted]
  simp only [List.append_nil, tl_len]
  rw [show ((s.size - (s.size - (k + 1)) : Nat) : Int) = (k : Int) + 1 by omega]
theorem qA_esc_end {s : ByteArray} {l : List UInt8} {k : Nat} (h : k < s.size) (hc : s[k] = 92) (he : k + 1 = s.size) : qA s l k = .tuple #[.string ⟨#[]⟩, .int .i64 0, .bool false] := by
  unfold qA; rw [tl_step h, hc, tl_end (Nat.le_of_eq he.symm)]; rfl
theorem qA_esc {s : ByteArray} {l : List UInt8} {k : Nat} (h : k < s.size) (hc : s[k] = 92) (he : k + 1 < s.size) : qA s l k = qA s (l ++ [if s[k + 1] = 110 then 10 else s[k + 1]]) (k + 2) := by
  unfold qA; rw [tl_step h, hc, tl_step he, quoted]
  cases quoted (s.data.toList.drop (k + 2)) with
  | none => rfl
  | some z => simp
theorem qA_plain {s : ByteArray} {l : List UInt8} {k : Nat} (h : k < s.size) (h1 : s[k] ≠ 34) (h2 : s[k] ≠ 92) : qA s l k = qA s (l ++ [s[k]]) (k + 1) := by
  unfold qA
  rw [tl_step h, quoted]
  · cases quoted (s.data.toList.drop (k + 1)) with
    | none => rfl
    | some z => simp
  · exact h1
  · intro h; exact absurd h h2
  · intro d s' h; exact absurd h h2
theorem byte_ne {c : UInt8} {n : Nat} (hn : n < 256) (h : c ≠ UInt8.ofNat n) : ((c.toNat : Int) == (n : Int)) = false := by
  simp only [beq_eq_false_iff_ne, ne_eq]
  intro h'
  apply h
  apply UInt8.toNat_inj.1
  rw [UInt8.toNat_ofNat', Nat.mod_eq_of_lt (by simpa using hn)]
  omega

set_option maxRecDepth 100000 in
set_option maxHeartbeats 4000000 in
theorem house_quoted (s : ByteArray) (i : Nat) (W : World) (hs : s.size ≤ 4194304) (hi : i ≤ s.size) : Calls Try.prog 14 #[.string s, .int .i64 (i : Int)] W fun e w' => e = .returned (qA s [] i) ∧ Below W.heap.size W w' := by
  obtain ⟨res, hres⟩ : ∃ res, res = qA s [] i := ⟨_, rfl⟩
  rw [← hres]
  have H0 := Lib.hid hres
  clear hres
  go_enter Try.func14, Try.ntmps14
  go_wp2_with fail
  go_loopw [1, 7] (fun j v wr => ∃ (k : Nat) (l : List UInt8), j = .int .i64 (k : Int) ∧ k ≤ s.size ∧ l.length ≤ k ∧ OutV W.heap.size wr 5 v (l.map byV) ∧ Hid (res = qA s l k) ∧ Below W.heap.size W wr) (fun j _ _ => s.size + 1 - (intOf j).toNat)
  case atStart => exact ⟨i, [], rfl, hi, Nat.zero_le _, OutV.nil _ _ _, H0, Below.refl _ _⟩
  case round =>
    clear H0
    obtain ⟨k, l, rfl, hk, hl, ho, Hr, B⟩ := hrel
    by_cases hlt : k < s.size
    rotate_left
    · have hv := Hr.out
      rw [qA_end (by omega)] at hv
      subst hv
      have hd : decide ((k : Int) < (s.size : Int)) = false := decide_eq_false (by omega)
      clear Hr ho
      go_wp2_with fail
      exact bodyPost_ret (v := .tuple #[_, _, _]) (by simp [results, Try.results14, go_sem]) rfl ⟨rfl, B⟩
    obtain ⟨c, hc⟩ : ∃ c, s[k]'hlt = c := ⟨_, rfl⟩
    by_cases h34 : c = 34
    · have hv := Hr.out
      rw [qA_quote hlt (hc.trans h34)] at hv
      subst hv
      have e1 : ((c.toNat : Int) == 34) = true := by rw [h34]; rfl
      have hcv := ho.str
      clear Hr ho h34
      go_wp2_with fail
      exact bodyPost_ret (v := .tuple #[_, _, _]) (by simp [results, Try.results14, go_sem]) rfl ⟨rfl, B⟩
    have e1 : ((c.toNat : Int) == 34) = false := byte_ne (n := 34) (by decide) h34
    by_cases h92 : c = 92
    · have e2 : ((c.toNat : Int) == 92) = true := by rw [h92]; rfl
      by_cases hend : k + 1 = s.size
      · have hv := Hr.out
        rw [qA_esc_end hlt (hc.trans h92) hend] at hv
        subst hv
        have e3 : ((k : Int) + 1 == (s.size : Int)) = true := by simp; omega
        clear Hr ho h34 h92
        go_wp2_with fail
        exact bodyPost_ret (v := .tuple #[_, _, _]) (by simp [results, Try.results14, go_sem]) rfl ⟨rfl, B⟩
      have hlt1 : k + 1 < s.size := by omega
      have e3 : ((k : Int) + 1 == (s.size : Int)) = false := by simp; omega
      have hr2 := Hr.out
      rw [qA_esc hlt (hc.trans h92) hlt1] at hr2
      obtain ⟨d, hd⟩ : ∃ d, s[k + 1]'hlt1 = d := ⟨_, rfl⟩
      rw [hd] at hr2
      by_cases h110 : d = 110
      · have e4 : ((d.toNat : Int) == 110) = true := by rw [h110]; rfl
        rw [if_pos h110] at hr2
        have Hr2 := Lib.hid hr2
        clear hr2 Hr h34 h92 h110
        go_upto_region 13 with fail
        go_wp2_with (at_builtin; refine ov_append infoU Try.underlying57 rfl (x := byV 10) rfl (.tmp 37) (.tmp 39) rfl rfl wr.heap.size 1 rfl (ho.below below_al) (Bx.new wr 5 #[byV 10]) rfl ?pa ?pb ?pc ?_)
        case pa => rw [List.length_map]; omega
        case pb => rw [List.length_map]; omega
        case pc => exact Nat.le_trans B.size below_al.size
        intro v5 w7 ho5 hb5
        have B5 := hb5 _ _ (Nat.le_refl _) (bnew B)
        rw [show l.map byV ++ [byV 10] = (l ++ [10]).map byV by simp] at ho5
        clear hb5 ho
        go_wp2_with fail
        go_roundw
        case rel => exact ⟨k + 2, l ++ [10], by go_num, by omega, by rw [List.length_append, List.length_singleton]; omega, ho5, Hr2, B5⟩
        case measure => simp [intOf]; omega
      · have e4 : ((d.toNat : Int) == 110) = false := byte_ne (n := 110) (by decide) h110
        rw [if_neg h110] at hr2
        have Hr2 := Lib.hid hr2
        clear hr2 Hr h34 h92 h110
        go_upto_region 13 with fail
        go_wp2_with (at_builtin; refine ov_append infoU Try.underlying57 rfl (x := byV d) rfl (.tmp 37) (.tmp 39) rfl rfl wr.heap.size 1 rfl (ho.below below_al) (Bx.new wr 5 #[byV d]) rfl ?qa ?qb ?qc ?_)
        case qa => rw [List.length_map]; omega
        case qb => rw [List.length_map]; omega
        case qc => exact Nat.le_trans B.size below_al.size
        intro v5 w7 ho5 hb5
        have B5 := hb5 _ _ (Nat.le_refl _) (bnew B)
        rw [show l.map byV ++ [byV d] = (l ++ [d]).map byV by simp] at ho5
        clear hb5 ho
        go_wp2_with fail
        go_roundw
        case rel => exact ⟨k + 2, l ++ [d], by go_num, by omega, by rw [List.length_append, List.length_singleton]; omega, ho5, Hr2, B5⟩
        case measure => simp [intOf]; omega
    · have e2 : ((c.toNat : Int) == 92) = false := byte_ne (n := 92) (by decide) h92
      have hr2 := Hr.out
      rw [qA_plain hlt (by rw [hc]; exact h34) (by rw [hc]; exact h92), hc] at hr2
      have Hr2 := Lib.hid hr2
      clear hr2 Hr h34 h92
      go_upto_region 13 with fail
      go_wp2_with (at_builtin; refine ov_append infoU Try.underlying57 rfl (x := byV c) rfl (.tmp 37) (.tmp 39) rfl rfl wr.heap.size 1 rfl (ho.below below_al) (Bx.new wr 5 #[byV c]) rfl ?ra ?rb ?rc ?_)
      case ra => rw [List.length_map]; omega
      case rb => rw [List.length_map]; omega
      case rc => exact Nat.le_trans B.size below_al.size
      intro v5 w7 ho5 hb5
      have B5 := hb5 _ _ (Nat.le_refl _) (bnew B)
      rw [show l.map byV ++ [byV c] = (l ++ [c]).map byV by simp] at ho5
      clear hb5 ho
      go_wp2_with fail
      go_roundw
      case rel => exact ⟨k + 1, l ++ [c], by go_num, by omega, by rw [List.length_append, List.length_singleton]; omega, ho5, Hr2, B5⟩
      case measure => simp [intOf]; omega
end Go.Proofs.Ytojieeenbbgpdaa
