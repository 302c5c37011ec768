/- strings.Join of texts that take up to 2^48 bytes together. -/
import Derived.Test.YtilninaminaadaaGreatDoorBnJ
namespace Go.Proofs.YtilninaminaadaaGreatDoor
open Go.RowKit

set_option maxHeartbeats 8000000 in
set_option maxRecDepth 100000 in
/-- Two texts or more: what comes is a text that is not longer than they are together. -/
theorem join_many (bk o c : Nat) (xs : List ByteArray) (sep : ByteArray) (w : World) (hcells : ∀ (j : Nat) x, xs[j]? = some x → w.cell? ⟨bk, o + j, none⟩ = some (.string x))
    (hbk : bk < w.heap.size) (h2 : 2 ≤ xs.length) (hN : xs.length ≤ 1000000) (hcap : xs.length ≤ c) (hc63 : c ≤ 9223372036854775807) (hs0 : 1 ≤ sep.size) (hs1 : sep.size ≤ 1000)
    (hlen : sep.size * (xs.length - 1) + Lib.lens (xs.map (·.data.toList)) ≤ 281474976710656) :
    Calls Tryz.prog 37 #[.slice (some ⟨bk, o, none⟩) xs.length c, .string sep] w fun e w' => ∃ R, e = .returned (.string R) ∧ R.size ≤ 281474976710656 ∧ Below w.heap.size w w' := by
  have HC := Lib.hid hcells
  clear hcells
  obtain ⟨n, hn⟩ : ∃ n, n = xs.length := ⟨_, rfl⟩
  have Hn := Lib.hid hn
  obtain ⟨LS, hLS⟩ : ∃ LS, LS = xs.map (·.data.toList) := ⟨_, rfl⟩
  have HLS := Lib.hid hLS
  rw [← hn] at h2 hN hcap hlen ⊢
  rw [← hLS] at hlen
  obtain ⟨M, hM⟩ : ∃ M, M = sep.size * (n - 1) := ⟨_, rfl⟩
  rw [← hM] at hlen
  have hMle : M ≤ 1000000000 := by
    rw [hM]
    exact Nat.le_trans (Nat.mul_le_mul hs1 (Nat.le_trans (Nat.sub_le _ _) hN)) (by decide)
  have hcast : ((n : Int) - 1) = ((n - 1 : Nat) : Int) := by omega
  have hdv : ¬ (9223372036854775807 / ((n : Int) - 1) ≤ (sep.size : Int)) := by
    have e : (9223372036854775807 : Int) / ((n - 1 : Nat) : Int) = ((9223372036854775807 / (n - 1) : Nat) : Int) := IntWalk.up_div (x := 9223372036854775807) rfl rfl
    have hq : 1001 ≤ 9223372036854775807 / (n - 1) := by
      rw [Nat.le_div_iff_mul_le (by omega)]
      have := Nat.mul_le_mul_left 1001 (show n - 1 ≤ 1000000 by omega)
      omega
    rw [hcast, e]
    generalize 9223372036854775807 / (n - 1) = q at hq
    omega
  have hprod : wrap64 ((sep.size : Int) * ((n : Int) - 1)) = (M : Int) := by
    have e : (sep.size : Int) * ((n - 1 : Nat) : Int) = ((sep.size * (n - 1) : Nat) : Int) := IntWalk.up_mul rfl rfl
    rw [hcast, e, ← hM]
    exact IntWalk.wrap64_in _ ⟨by omega, by omega⟩
  have HM := Lib.hid hM
  have hne0 : ((n : Int) == 0) = false := beq_eq_false_iff_ne.2 (by omega)
  have hne1 : ((n : Int) == 1) = false := beq_eq_false_iff_ne.2 (by omega)
  clear hcast hn hLS hM
  go_enter Tryz.func37, Tryz.ntmps37
  go_wp2_with fail
  all_goals (
    go_loop [5, 41] (fun s5 i => ∃ k : Nat, k ≤ n ∧ i = .int .i64 k ∧ s5 = .int .i64 ((M + Lib.lens (LS.take k) : Nat) : Int)) (fun _ i => n - (intOf i).toNat)
    case atStart => exact ⟨0, Nat.zero_le _, rfl, by simp [Lib.lens]⟩
    case round =>
      obtain ⟨k, hk, rfl, rfl⟩ := hrel
      by_cases hkn : k < n
      · obtain ⟨x, hx⟩ : ∃ x, xs[k]? = some x := ⟨xs[k]'(by rw [← Hn.out]; exact hkn), List.getElem?_eq_getElem _⟩
        have hc := HC.out k x hx
        have hstep := Lib.lens_take_succ LS k x.data.toList (by rw [HLS.out]; simp [hx])
        have hbound : Lib.lens (LS.take (k + 1)) ≤ Lib.lens LS := Lib.lens_take_le _ _
        rw [← Lib.size_eq] at hstep
        generalize hA1 : Lib.lens (LS.take (k + 1)) = A1 at hstep hbound
        generalize Lib.lens (LS.take k) = A0 at hstep
        have HA1 := Lib.hid hA1
        clear hA1 hx
        go_wp2
        exact ⟨⟨k + 1, by omega, by go_num, by rw [HA1.out]; refine congrArg _ ?_; omega⟩, by simp [intOf]; omega⟩
      · have hke : k = n := by omega
        subst hke
        have hall : LS.take k = LS := List.take_of_length_le (by rw [HLS.out, List.length_map, ← Hn.out]; exact Nat.le_refl _)
        rw [hall]
        generalize hT : Lib.lens LS = T at hlen
        have HT := Lib.hid hT
        clear hT hall
        go_wp2_with fail
        have hMT : ((M : Int) + (T : Int)) = ((M + T : Nat) : Int) := by omega
        rw [hMT]
        refine (bld_grow w.heap.size (M + T) _ (heap_alloc_new w _) (by omega)).mono ?_
        rintro e w1 ⟨rfl, hb1, cc, hB1, hcc⟩
        have hb1' : Below w.heap.size w w1 := ((Below.refl w.heap.size w).alloc (Nat.le_refl _) _).trans hb1
        obtain ⟨x0, hx0⟩ : ∃ x0, xs[0]? = some x0 := ⟨xs[0]'(by rw [← Hn.out]; omega), List.getElem?_eq_getElem _⟩
        have hc0 : w1.cell? ⟨bk, o, none⟩ = some (.string x0) := by
          rw [hb1'.cell (p := ⟨bk, o, none⟩) hbk]
          exact HC.out 0 x0 hx0
        have hl1 : Lib.lens (LS.take 1) = x0.size := by
          have := Lib.lens_take_succ LS 0 x0.data.toList (by rw [HLS.out]; simp [hx0])
          rw [this, ← Lib.size_eq]
          simp [Lib.lens]
        have hle1 : x0.size ≤ T := by rw [← hl1, ← HT.out]; exact Lib.lens_take_le _ _
        have H1 := Lib.hid hB1
        have Hb1 := Lib.hid hb1'
        have Hl1 := Lib.hid hl1
        have hsB : w.heap.size < w1.heap.size := hB1.lt
        have hccM : M + T ≤ cc := hcc
        clear hb1 hB1 hb1' hMT hl1 hcc hx0
        go_wp2_with fail
        refine (bld_writeC w.heap.size cc [] x0 w1 H1.out (by rw [List.length_nil]; omega)).mono ?_
        rintro e w2 ⟨rfl, hB2, hb2⟩
        have Hb2 := Lib.hid (Hb1.out.trans hb2)
        have H2 : Hid (∃ l, BtC w.heap.size l cc w2 ∧ l.length = Lib.lens (LS.take (0 + 1)) + sep.size * 0) := Lib.hid ⟨_, hB2, by rw [List.nil_append, ← Lib.size_eq, Nat.zero_add, Hl1.out]; omega⟩
        clear hB2 hb2 hc0
        go_wp2_with fail
        obtain ⟨r, hr⟩ : ∃ r, k = r + 1 := ⟨k - 1, by omega⟩
        have Hr := Lib.hid hr
        have HMT := Lib.hid (And.intro hccM hlen)
        have hks : 1 ≤ k := by omega
        clear hr hdv hprod hne0 hne1 Hb1 H1 hsB hlen hccM hle1
        go_loopw [65] (fun i wr => ∃ j : Nat, j ≤ r ∧ i = .int .i64 j ∧ Hid (∃ l, BtC w.heap.size l cc wr ∧ l.length = Lib.lens (LS.take (j + 1)) + sep.size * j) ∧ Hid (Below w.heap.size w wr)) (fun i _ => r - (intOf i).toNat)
        case atStart => exact ⟨0, Nat.zero_le _, rfl, H2, Hb2⟩
        case round =>
          clear H2 Hb2
          obtain ⟨j, hj, rfl, HB, HW⟩ := hrel
          by_cases hjr : j < r
          · have hjk : j < k - 1 := by have := Hr.out; omega
            have hjI : (j : Int) < (k : Int) - 1 := by omega
            obtain ⟨y, hy⟩ : ∃ y, xs[j + 1]? = some y := ⟨xs[j + 1]'(by rw [← Hn.out]; omega), List.getElem?_eq_getElem _⟩
            have hcy : wr.cell? ⟨bk, o + 1 + j, none⟩ = some (.string y) := by
              rw [HW.out.cell (p := ⟨bk, o + 1 + j, none⟩) hbk, show o + 1 + j = o + (j + 1) by omega]
              exact HC.out (j + 1) y hy
            have hst : Lib.lens (LS.take (j + 1 + 1)) = Lib.lens (LS.take (j + 1)) + y.size := by
              rw [Lib.lens_take_succ LS (j + 1) y.data.toList (by rw [HLS.out]; simp [hy]), ← Lib.size_eq]
            have hle2 : Lib.lens (LS.take (j + 1 + 1)) ≤ T := by rw [← HT.out]; exact Lib.lens_take_le _ _
            have hse : sep.size * (j + 1) ≤ M := by
              rw [HM.out]; exact Nat.mul_le_mul_left _ (by omega)
            have hmul : sep.size * (j + 1) = sep.size * j + sep.size := Nat.mul_succ _ _
            obtain ⟨l, hl, hll⟩ := HB.out
            have HL := Lib.hid hl
            have HF : Hid (l.length + sep.size ≤ cc ∧ l.length + sep.size + y.size ≤ cc ∧ l.length + sep.size + y.size = Lib.lens (LS.take (j + 1 + 1)) + sep.size * (j + 1)) := Lib.hid (by have := HMT.out; omega)
            have hltB := hl.lt
            clear hl hll hst hle2 hse hmul hy
            go_wp2_with fail
            refine (bld_writeC w.heap.size cc l sep wr HL.out HF.out.1).mono ?_
            rintro e w3 ⟨rfl, hB3, hb3⟩
            have H3 := Lib.hid hB3
            have Hb3 := Lib.hid (HW.out.trans hb3)
            clear hB3 hb3 HL HB
            go_wp2_with fail
            refine (bld_writeC w.heap.size cc _ y w3 H3.out (by rw [List.length_append, ← Lib.size_eq]; exact HF.out.2.1)).mono ?_
            rintro e w4 ⟨rfl, hB4, hb4⟩
            have Hb4 := Lib.hid (Hb3.out.trans hb4)
            have H4 : Hid (∃ l, BtC w.heap.size l cc w4 ∧ l.length = Lib.lens (LS.take (j + 1 + 1)) + sep.size * (j + 1)) := Lib.hid ⟨_, hB4, by
              rw [List.length_append, List.length_append, ← Lib.size_eq, ← Lib.size_eq]; exact HF.out.2.2⟩
            clear hB4 hb4 H3 Hb3 HF
            go_wp2_with fail
            go_roundw
            case rel => exact ⟨j + 1, by omega, by go_num, H4, Hb4⟩
            case measure => simp [intOf]; omega
          · have hjk : ¬ j < k - 1 := by have := Hr.out; omega
            have hjI : ¬ (j : Int) < (k : Int) - 1 := by omega
            obtain ⟨l, hl, hll⟩ := HB.out
            have hjr2 : j = r := by omega
            have HF : Hid (l.length ≤ 281474976710656) := Lib.hid (by
              have h1 := HMT.out
              have h2 : Lib.lens (LS.take (j + 1)) ≤ T := by rw [← HT.out]; exact Lib.lens_take_le _ _
              have h3 : sep.size * j = M := by rw [HM.out, hjr2, Hr.out, Nat.add_sub_cancel]
              omega)
            have HL := Lib.hid hl.is
            have hBw : w.heap.size ≤ wr.heap.size := HW.out.size
            clear hl hll hjr2
            go_wp2_with fail
            refine (Tryz.Builder_String_any w.heap.size w.heap.size l wr HL.out hBw).mono ?_
            rintro e w5 ⟨rfl, hb5⟩
            have Hb5 := Lib.hid (HW.out.trans hb5)
            clear hb5
            go_wp2_with fail
            go_ret
            exact ⟨_, rfl, by rw [Lib.size_eq]; simpa using HF.out, Hb5.out⟩)
end Go.Proofs.YtilninaminaadaaGreatDoor
