/- Codes read: dyeref1.ParseCode. (printed by gen_codf.py) -/
import Derived.Test.YtjicgbpnplmpbaaDoorCdE
namespace Go.Proofs.YtjicgbpnplmpbaaDoor
open Go.RowKit

def numN (t : ByteArray) (q : Nat) : Nat := 10 * (bt t (3 * q) - 48) + (bt t (3 * q + 1) - 48)
def dgK (t : ByteArray) (q : Nat) : Prop := 48 ≤ bt t (3 * q) ∧ bt t (3 * q) ≤ 57 ∧ 48 ≤ bt t (3 * q + 1) ∧ bt t (3 * q + 1) ≤ 57
theorem numN_is {t : ByteArray} {q : Nat} (h : dgK t q) : (numN t q : Int) = numC t q ∧ numN t q < 100 := by
  obtain ⟨a, b, c, d⟩ := h
  unfold numN numC dig; omega
theorem two_of {a b : UInt8} (h1 : 48 ≤ a.toNat) (h2 : a.toNat ≤ 57) (h3 : 48 ≤ b.toNat) (h4 : b.toNat ≤ 57) : two (10 * (a.toNat - 48) + (b.toNat - 48)) = ⟨#[a, b]⟩ := by
  unfold two
  rw [show 48 + (10 * (a.toNat - 48) + (b.toNat - 48)) / 10 = a.toNat by omega, show 48 + (10 * (a.toNat - 48) + (b.toNat - 48)) % 10 = b.toNat by omega, UInt8.ofNat_toNat, UInt8.ofNat_toNat]
theorem list11 {l : List UInt8} (h : l.length = 11) : ∃ b0 b1 b2 b3 b4 b5 b6 b7 b8 b9 b10, l = [b0, b1, b2, b3, b4, b5, b6, b7, b8, b9, b10] := by
  obtain _ | ⟨b0, _ | ⟨b1, _ | ⟨b2, _ | ⟨b3, _ | ⟨b4, _ | ⟨b5, _ | ⟨b6, _ | ⟨b7, _ | ⟨b8, _ | ⟨b9, _ | ⟨b10, _ | ⟨b11, l⟩⟩⟩⟩⟩⟩⟩⟩⟩⟩⟩⟩ := l
  all_goals first
    | exact ⟨_, _, _, _, _, _, _, _, _, _, _, rfl⟩
    | (exfalso; simp only [List.length_cons, List.length_nil] at h; omega)
theorem dg_bad {sp : Nat} {t : ByteArray} {q : Nat} (hq : q < 4) (h : ¬ dgK t q) : okN sp t 11 = false := by
  cases hx : okN sp t 11
  · rfl
  · exfalso
    have h1 := okN_at (k := 3 * q) hx (by omega)
    have h2 := okN_at (k := 3 * q + 1) hx (by omega)
    unfold posOK at h1 h2
    rw [if_neg (by omega), Bool.and_eq_true] at h1 h2
    exact h ⟨of_decide_eq_true h1.1, of_decide_eq_true h1.2, of_decide_eq_true h2.1, of_decide_eq_true h2.2⟩
theorem text_same (r : Int) {t : ByteArray} (hs : t.size = 11) (hd : ∀ q, q < 4 → dgK t q) : ((codeB r (numN t 0) (numN t 1) (numN t 2) (numN t 3)).toList == t.toList) = okN (sepN r) t 11 := by
  obtain ⟨⟨l⟩⟩ := t
  obtain ⟨b0, b1, b2, b3, b4, b5, b6, b7, b8, b9, b10, rfl⟩ := list11 (l := l) hs
  have d0 := hd 0 (by omega)
  have d1 := hd 1 (by omega)
  have d2 := hd 2 (by omega)
  have d3 := hd 3 (by omega)
  clear hd
  simp only [dgK, bt, Nat.mul_zero, Nat.zero_add, Nat.mul_one, Nat.reduceMul, Nat.reduceAdd, List.getD_cons_zero, List.getD_cons_succ] at d0 d1 d2 d3
  obtain ⟨p0, p1, p2, p3⟩ := d0
  obtain ⟨p4, p5, p6, p7⟩ := d1
  obtain ⟨p8, p9, p10, p11⟩ := d2
  obtain ⟨p12, p13, p14, p15⟩ := d3
  have hsep : sepB r = ⟨#[UInt8.ofNat (sepN r)]⟩ := by unfold sepB sepN; split <;> rfl
  have hcode : codeB r (numN ⟨⟨[b0, b1, b2, b3, b4, b5, b6, b7, b8, b9, b10]⟩⟩ 0) (numN ⟨⟨[b0, b1, b2, b3, b4, b5, b6, b7, b8, b9, b10]⟩⟩ 1) (numN ⟨⟨[b0, b1, b2, b3, b4, b5, b6, b7, b8, b9, b10]⟩⟩ 2) (numN ⟨⟨[b0, b1, b2, b3, b4, b5, b6, b7, b8, b9, b10]⟩⟩ 3) = ⟨#[b0, b1, 58, b3, b4, 58, b6, b7, UInt8.ofNat (sepN r), b9, b10]⟩ := by
    have e0 : two (numN ⟨⟨[b0, b1, b2, b3, b4, b5, b6, b7, b8, b9, b10]⟩⟩ 0) = ⟨#[b0, b1]⟩ := two_of p0 p1 p2 p3
    have e1 : two (numN ⟨⟨[b0, b1, b2, b3, b4, b5, b6, b7, b8, b9, b10]⟩⟩ 1) = ⟨#[b3, b4]⟩ := two_of p4 p5 p6 p7
    have e2 : two (numN ⟨⟨[b0, b1, b2, b3, b4, b5, b6, b7, b8, b9, b10]⟩⟩ 2) = ⟨#[b6, b7]⟩ := two_of p8 p9 p10 p11
    have e3 : two (numN ⟨⟨[b0, b1, b2, b3, b4, b5, b6, b7, b8, b9, b10]⟩⟩ 3) = ⟨#[b9, b10]⟩ := two_of p12 p13 p14 p15
    unfold codeB
    rw [e0, e1, e2, e3, hsep]; rfl
  rw [hcode, Lib.toList_data, Lib.toList_data, Bool.eq_iff_iff, beq_iff_eq]
  have hsn : ∀ c : UInt8, UInt8.ofNat (sepN r) = c ↔ c.toNat = sepN r := by
    intro c
    have hs2 : (UInt8.ofNat (sepN r)).toNat = sepN r := by unfold sepN; split <;> rfl
    constructor
    · rintro rfl; exact hs2
    · intro h; exact UInt8.toNat_inj.1 (hs2.trans h.symm)
  have h58 : ∀ c : UInt8, 58 = c ↔ c.toNat = 58 := fun c => ⟨fun h => by subst h; rfl, fun h => UInt8.toNat_inj.1 h.symm⟩
  simp only [okN, posOK, formN, bt, List.getD_cons_zero, List.getD_cons_succ, Nat.reduceMod, Nat.reduceEqDiff, if_true, if_false, Bool.true_and, Bool.and_eq_true, decide_eq_true_eq, List.cons.injEq, true_and, and_true, h58, hsn]
  simp [p0, p1, p2, p3, p4, p5, p6, p7, p8, p9, p10, p11, p12, p13, p14, p15]
  omega

set_option maxRecDepth 100000 in
set_option maxHeartbeats 8000000 in
theorem ref_ParseCode (r : Int) (t : ByteArray) (W : World) (va vb vc vd vE : Int) (h : parseC r t = (va, vb, vc, vd, vE)) : Calls Tryd.prog 31 #[.int .i64 r, .string t] W fun e w' => e = .returned (.tuple #[.agg #[.int .i64 va, .int .i64 vb, .int .i64 vc, .int .i64 vd], .int .i64 vE]) ∧ Below W.heap.size W w' := by
  have H := Lib.hid h
  clear h
  go_enter Tryd.func31, Tryd.ntmps31
  go_upto_region 1 with fail
  refine name_world ?_
  intro w1 hw1
  have x4 : Bx w1 W.heap.size 59 #[.int .i64 0, .int .i64 0, .int .i64 0, .int .i64 0] := by rw [hw1]; exact Bx.new _ _ _
  have B : Below W.heap.size W w1 := by rw [hw1]; exact bnew (Below.refl _ W)
  clear hw1
  obtain ⟨q4, f4, l4⟩ := x4.all
  go_wp2_with fail
  refine (ref_second r _).mono ?_
  rintro e w1 ⟨rfl, rfl⟩
  cases hr : rateB r
  · rw [sec_none hr]
    have hv := H.out
    unfold parseC at hv
    rw [if_pos hr] at hv
    cases hv
    go_wp2_with fail
    exact bodyPost_ret (v := .tuple #[.agg #[.int .i64 0, .int .i64 0, .int .i64 0, .int .i64 0], .int .i64 1]) (by simp [results, Tryd.results31, go_sem, q4]) rfl ⟨rfl, bput (by omega) (bput (by omega) (bput (by omega) (bput (by omega) B)))⟩
  obtain ⟨c2, c0, c1⟩ := sec_cntd hr
  rw [c2]
  have n0 : (cntd r == 0) = false := by simp; omega
  clear c2 c0 c1
  by_cases hn : t.size = 11
  rotate_left
  · have hn1 : ((t.size : Int) != 11) = true := by simp; omega
    have hv := H.out
    unfold parseC at hv
    rw [if_neg (by rw [hr]; decide), if_pos (Or.inl hn)] at hv
    cases hv
    clear hn hr
    go_wp2_with fail
    exact bodyPost_ret (v := .tuple #[.agg #[.int .i64 0, .int .i64 0, .int .i64 0, .int .i64 0], .int .i64 9]) (by simp [results, Tryd.results31, go_sem, q4]) rfl ⟨rfl, bput (by omega) (bput (by omega) (bput (by omega) (bput (by omega) B)))⟩
  have hn1 : (t.size : Int) = 11 := by omega
  have Hr := Lib.hid hr
  clear hr
  go_wp2_with fail
  refine name_world ?_
  intro w2 hw2
  obtain ⟨b7, hb7⟩ : ∃ b7, b7 = w1.heap.size := ⟨_, rfl⟩
  try rw [← hb7]
  have x7 : Bx w2 b7 110 (arrI (fun j => if j < 0 then numC t j else 0)) := by rw [hw2, hb7]; exact Bx.new _ _ _
  replace x4 : Bx w2 W.heap.size 59 #[.int .i64 0, .int .i64 0, .int .i64 0, .int .i64 0] := by rw [hw2]; exact x4.alloc _
  replace B : Below W.heap.size W w2 := by rw [hw2]; exact bnew B
  have h47 : W.heap.size < b7 := by rw [hb7]; exact l4
  clear hw2 hb7 q4 f4 l4
  go_loopw [20] (fun i wr => ∃ k : Nat, k ≤ 4 ∧ i = .int .i64 (k : Int) ∧ Hid (∀ j, j < k → dgK t j) ∧ Bx wr W.heap.size 59 #[.int .i64 0, .int .i64 0, .int .i64 0, .int .i64 0] ∧ Bx wr b7 110 (arrI (fun j => if j < k then numC t j else 0)) ∧ Below W.heap.size W wr) (fun i _ => 4 - (intOf i).toNat)
  case atStart => exact ⟨0, by omega, rfl, Lib.hid (fun j hj => by omega), x4, x7, B⟩
  case round =>
    clear x4 x7 B
    obtain ⟨k, hk, rfl, hok, x4, x7, B⟩ := hrel
    obtain ⟨q4, f4, l4⟩ := x4.all
    obtain ⟨q7, f7, l7⟩ := x7.all
    by_cases hlt : k < 4
    · have hk0 : 0 ≤ 3 * (k : Int) := by omega
      have hk1 : 3 * (k : Int) < 11 := by omega
      have hk2 : 3 * (k : Int) + 1 < 11 := by omega
      have hk3 : 0 ≤ 3 * (k : Int) + 1 := by omega
      have h3t : 3 * k < t.size := by omega
      have h31t : 3 * k + 1 < t.size := by omega
      obtain ⟨c1, hc1⟩ : ∃ c, (t[3 * k]'h3t).toNat = c := ⟨_, rfl⟩
      obtain ⟨c2, hc2⟩ : ∃ c, (t[3 * k + 1]'h31t).toNat = c := ⟨_, rfl⟩
      have hb1 : bt t (3 * k) = c1 := by rw [← bt_get h3t]; exact hc1
      have hb2 : bt t (3 * k + 1) = c2 := by rw [← bt_get h31t]; exact hc2
      have hdk : dgK t k ↔ 48 ≤ c1 ∧ c1 ≤ 57 ∧ 48 ≤ c2 ∧ c2 ≤ 57 := by unfold dgK; rw [hb1, hb2]
      have c1l : c1 < 256 := by rw [← hc1]; exact (t[3 * k]'h3t).toNat_lt
      have c2l : c2 < 256 := by rw [← hc2]; exact (t[3 * k + 1]'h31t).toNat_lt
      rcases (by omega : c1 < 48 ∨ (48 ≤ c1 ∧ 57 < c1) ∨ (48 ≤ c1 ∧ c1 ≤ 57 ∧ c2 < 48) ∨ (48 ≤ c1 ∧ c1 ≤ 57 ∧ 48 ≤ c2 ∧ 57 < c2) ∨ (48 ≤ c1 ∧ c1 ≤ 57 ∧ 48 ≤ c2 ∧ c2 ≤ 57)) with g | g | g | g | g
      · have e1 : decide ((c1 : Int) < 48) = true := decide_eq_true (by omega)
        have hbad := dg_bad (sp := sepN r) hlt (fun h => by have := hdk.1 h; omega)
        have hv := H.out
        unfold parseC at hv
        rw [if_neg (by rw [Hr.out]; decide), if_pos (Or.inr hbad)] at hv
        cases hv
        clear hbad g hdk hb1 hb2 c1l c2l hok
        go_upto_region 9 with fail
        go_quiet (fail)
        go_wp2_with fail
        exact bodyPost_ret (v := .tuple #[.agg #[.int .i64 0, .int .i64 0, .int .i64 0, .int .i64 0], .int .i64 9]) (by simp [results, Tryd.results31, go_sem, q4]) rfl ⟨rfl, bput (by omega) (bput (by omega) (bput (by omega) (bput (by omega) (below_drewN B _))))⟩
      · have e1 : decide ((c1 : Int) < 48) = false := decide_eq_false (by omega)
        have e2 : decide (57 < (c1 : Int)) = true := decide_eq_true (by omega)
        have hbad := dg_bad (sp := sepN r) hlt (fun h => by have := hdk.1 h; omega)
        have hv := H.out
        unfold parseC at hv
        rw [if_neg (by rw [Hr.out]; decide), if_pos (Or.inr hbad)] at hv
        cases hv
        clear hbad g hdk hb1 hb2 c1l c2l hok
        go_upto_region 9 with fail
        go_quiet (fail)
        go_wp2_with fail
        exact bodyPost_ret (v := .tuple #[.agg #[.int .i64 0, .int .i64 0, .int .i64 0, .int .i64 0], .int .i64 9]) (by simp [results, Tryd.results31, go_sem, q4]) rfl ⟨rfl, bput (by omega) (bput (by omega) (bput (by omega) (bput (by omega) (below_drewN B _))))⟩
      · have e1 : decide ((c1 : Int) < 48) = false := decide_eq_false (by omega)
        have e2 : decide (57 < (c1 : Int)) = false := decide_eq_false (by omega)
        have e3 : decide ((c2 : Int) < 48) = true := decide_eq_true (by omega)
        have hbad := dg_bad (sp := sepN r) hlt (fun h => by have := hdk.1 h; omega)
        have hv := H.out
        unfold parseC at hv
        rw [if_neg (by rw [Hr.out]; decide), if_pos (Or.inr hbad)] at hv
        cases hv
        clear hbad g hdk hb1 hb2 c1l c2l hok
        go_upto_region 9 with fail
        go_quiet (fail)
        go_wp2_with fail
        exact bodyPost_ret (v := .tuple #[.agg #[.int .i64 0, .int .i64 0, .int .i64 0, .int .i64 0], .int .i64 9]) (by simp [results, Tryd.results31, go_sem, q4]) rfl ⟨rfl, bput (by omega) (bput (by omega) (bput (by omega) (bput (by omega) (below_drewN B _))))⟩
      · have e1 : decide ((c1 : Int) < 48) = false := decide_eq_false (by omega)
        have e2 : decide (57 < (c1 : Int)) = false := decide_eq_false (by omega)
        have e3 : decide ((c2 : Int) < 48) = false := decide_eq_false (by omega)
        have e4 : decide (57 < (c2 : Int)) = true := decide_eq_true (by omega)
        have hbad := dg_bad (sp := sepN r) hlt (fun h => by have := hdk.1 h; omega)
        have hv := H.out
        unfold parseC at hv
        rw [if_neg (by rw [Hr.out]; decide), if_pos (Or.inr hbad)] at hv
        cases hv
        clear hbad g hdk hb1 hb2 c1l c2l hok
        go_upto_region 9 with fail
        go_quiet (fail)
        go_wp2_with fail
        exact bodyPost_ret (v := .tuple #[.agg #[.int .i64 0, .int .i64 0, .int .i64 0, .int .i64 0], .int .i64 9]) (by simp [results, Tryd.results31, go_sem, q4]) rfl ⟨rfl, bput (by omega) (bput (by omega) (bput (by omega) (bput (by omega) (below_drewN B _))))⟩
      · have e1 : decide ((c1 : Int) < 48) = false := decide_eq_false (by omega)
        have e2 : decide (57 < (c1 : Int)) = false := decide_eq_false (by omega)
        have e3 : decide ((c2 : Int) < 48) = false := decide_eq_false (by omega)
        have e4 : decide (57 < (c2 : Int)) = false := decide_eq_false (by omega)
        have hok2 : Hid (∀ j, j < k + 1 → dgK t j) := Lib.hid (fun j hj => by
          rcases Nat.lt_or_eq_of_le (Nat.le_of_lt_succ hj) with h | rfl
          · exact hok.out j h
          · exact hdk.2 g)
        obtain ⟨g1, g2, g3, g4⟩ := g
        have ha : (arrI (fun j => if j < k then numC t j else 0)).setIfInBounds k (.int .i64 (((c1 : Int) - 48) * 10 + ((c2 : Int) - 48))) = arrI (fun j => if j < k + 1 then numC t j else 0) := by
          refine arrI_set hlt ?_ (fun q' hne => ?_)
          · rw [if_pos (by omega)]; unfold numC dig; rw [hb1, hb2]; omega
          · by_cases h : q' < k
            · rw [if_pos h, if_pos (by omega)]
            · rw [if_neg h, if_neg (by omega)]
        have Ha := Lib.hid ha
        have hcell : wr.cell? ⟨b7, k, none⟩ = some (.int .i64 0) := by rw [q7, arrI_at _ hlt]; simp
        clear ha hdk hb1 hb2 hok
        go_upto_region 9 with fail
        go_quiet (fail)
        go_upto_region 12 with fail
        refine name_world ?_
        intro wz hwz
        replace x4 := bx_eqd2 hwz x4
        replace x7 := bx_eqd2 hwz x7
        replace B := b_eqd2 hwz B
        replace hcell : wz.cell? ⟨b7, k, none⟩ = some (.int .i64 0) := by rw [hwz]; exact hcell
        clear hwz q4 f4 l4 q7 f7 l7
        obtain ⟨q7, f7, l7⟩ := x7.all
        clear q7
        go_wp2_with fail
        go_roundw
        case rel =>
          have y7 := x7.set k (.int .i64 (((c1 : Int) - 48) * 10 + ((c2 : Int) - 48)))
          rw [Ha.out] at y7
          exact ⟨k + 1, by omega, by go_num, hok2, x4.other _ _ (by simp; omega), y7, bput (by omega) B⟩
        case measure => simp [intOf]; omega
    · obtain rfl : k = 4 := by omega
      have hd : ∀ q, q < 4 → dgK t q := hok.out
      obtain ⟨m0, l0⟩ := numN_is (hd 0 (by omega))
      obtain ⟨m1, l1⟩ := numN_is (hd 1 (by omega))
      obtain ⟨m2, l2⟩ := numN_is (hd 2 (by omega))
      obtain ⟨m3, l3⟩ := numN_is (hd 3 (by omega))
      have hcmp := text_same r hn hd
      have hnum : arrI (fun j => if j < 4 then numC t j else 0) = #[.int .i64 (numN t 0 : Int), .int .i64 (numN t 1 : Int), .int .i64 (numN t 2 : Int), .int .i64 (numN t 3 : Int)] := by
        rw [m0, m1, m2, m3]; rfl
      rw [hnum] at x7
      have hv := H.out
      unfold parseC at hv
      rw [if_neg (by rw [Hr.out]; decide), ← m0, ← m1, ← m2, ← m3] at hv
      clear hnum q4 f4 l4 q7 f7 l7 hlt m0 m1 m2 m3 hd H hok hk
      obtain ⟨q7, f7, l7⟩ := x7.all
      generalize numN t 0 = n0' at *
      generalize numN t 1 = n1 at *
      generalize numN t 2 = n2 at *
      generalize numN t 3 = n3 at *
      go_upto_region 15 with fail
      refine name_world ?_
      intro wy hwy
      have z10 : Bx wy wr.heap.size 59 #[.int .i64 (n0' : Int), .int .i64 (n1 : Int), .int .i64 (n2 : Int), .int .i64 (n3 : Int)] := by rw [hwy]; exact Bx.new _ _ _
      have z4 : Bx wy W.heap.size 59 #[.int .i64 0, .int .i64 0, .int .i64 0, .int .i64 0] := by rw [hwy]; exact x4.alloc _
      have B2 : Below W.heap.size W wy := by rw [hwy]; exact bnew B
      clear hwy x4 x7 B q7 f7 l7
      obtain ⟨q10, f10, l10⟩ := z10.all
      go_wp2_with fail
      refine (ref_PrintCode r n0' n1 n2 n3 _ l0 l1 l2 l3).mono ?_
      rintro e w3 ⟨rfl, hb3⟩
      have y4 := z4.keep hb3
      have y10 := z10.keep hb3
      have B := bcall B2 hb3
      clear hb3 z4 z10 B2 q10 f10 l10
      obtain ⟨q4, f4, l4⟩ := y4.all
      obtain ⟨q10, f10, l10⟩ := y10.all
      cases ho : okN (sepN r) t 11
      · rw [ho] at hcmp
        rw [if_pos (Or.inr ho)] at hv
        cases hv
        clear ho
        go_wp2_with fail
        exact bodyPost_ret (v := .tuple #[.agg #[.int .i64 0, .int .i64 0, .int .i64 0, .int .i64 0], .int .i64 9]) (by simp [results, Tryd.results31, go_sem, q4]) rfl ⟨rfl, bput (by omega) (bput (by omega) (bput (by omega) (bput (by omega) B)))⟩
      rw [ho] at hcmp
      rw [if_neg (by rw [ho]; simp [hn])] at hv
      clear ho
      go_wp2_with fail
      refine (ref_CodeError r n0' n1 n2 n3 _).mono ?_
      rintro e w4 ⟨rfl, hb3⟩
      replace y4 := y4.keep hb3
      replace y10 := y10.keep hb3
      replace B := bcall B hb3
      clear hb3 q4 f4 l4 q10 f10 l10
      obtain ⟨q4, f4, l4⟩ := y4.all
      obtain ⟨q10, f10, l10⟩ := y10.all
      obtain ⟨e, he⟩ : ∃ e, codeE r n0' n1 n2 n3 = e := ⟨_, rfl⟩
      rw [he] at hv ⊢
      clear he
      by_cases h0 : e = 0
      · subst h0
        rw [if_neg (by simp)] at hv
        cases hv
        go_wp2_with fail
        exact bodyPost_ret (v := .tuple #[.agg #[.int .i64 n0', .int .i64 n1, .int .i64 n2, .int .i64 n3], .int .i64 0]) (by simp [results, Tryd.results31, go_sem, q4]) rfl ⟨rfl, bput (by omega) (bput (by omega) (bput (by omega) (bput (by omega) B)))⟩
      · have h0' : (e != 0) = true := by simpa using h0
        rw [if_pos h0] at hv
        cases hv
        clear h0
        go_wp2_with fail
        exact bodyPost_ret (v := .tuple #[.agg #[.int .i64 0, .int .i64 0, .int .i64 0, .int .i64 0], .int .i64 vE]) (by simp [results, Tryd.results31, go_sem, q4]) rfl ⟨rfl, bput (by omega) (bput (by omega) (bput (by omega) (bput (by omega) B)))⟩
end Go.Proofs.YtjicgbpnplmpbaaDoor
