/- What is printed is read, plainly. -/
import Derived.Test.YtemlabmmafcapaaGreatDoorCdB
import Derived.Test.YtemlabmmafcapaaGreatDoorNam
import Derived.BigQuiet
namespace Go.Proofs.YtemlabmmafcapaaGreatDoor

section
open Go.RowKit

/-- a byte of a text -/
def bt (t : ByteArray) (k : Nat) : Nat := (t.data.toList.getD k 0).toNat
def sepN (r : Int) : Nat := if r = 29 then 59 else 58
/-- what stands at a place of the form: 48 for a digit -/
def formN (sp k : Nat) : Nat := if k % 3 = 2 then (if k = 8 then sp else 58) else 48
def posOK (sp : Nat) (t : ByteArray) (k : Nat) : Bool := if k % 3 = 2 then decide (bt t k = formN sp k) else (decide (48 ≤ bt t k) && decide (bt t k ≤ 57))
def okN (sp : Nat) (t : ByteArray) : Nat → Bool
  | 0 => true
  | k + 1 => okN sp t k && posOK sp t k
def dig (t : ByteArray) (k : Nat) : Int := (bt t k : Int) - 48
def numC (t : ByteArray) (q : Nat) : Int := 10 * dig t (3 * q) + dig t (3 * q + 1)
/-- the number q after k places -/
def pcC (t : ByteArray) (k q : Nat) : Int := if k ≤ 3 * q then 0 else if k = 3 * q + 1 then dig t (3 * q) else numC t q
def parseC (r : Int) (t : ByteArray) : Int × Int × Int × Int × Int :=
  if rateB r = false then (0, 0, 0, 0, 1)
  else if t.size ≠ 11 ∨ okN (sepN r) t 11 = false then (0, 0, 0, 0, 9)
  else if codeE r (numC t 0) (numC t 1) (numC t 2) (numC t 3) ≠ 0 then (0, 0, 0, 0, codeE r (numC t 0) (numC t 1) (numC t 2) (numC t 3))
  else (numC t 0, numC t 1, numC t 2, numC t 3, 0)
theorem bt_get {t : ByteArray} {k : Nat} (h : k < t.size) : (t[k]).toNat = bt t k := by
  unfold bt
  rw [List.getD_eq_getElem?_getD, getB t k h]; rfl
theorem okN_le {sp : Nat} {t : ByteArray} {k n : Nat} (h : k ≤ n) (hn : okN sp t n = true) : okN sp t k = true := by
  induction n with
  | zero => obtain rfl : k = 0 := by omega
            exact hn
  | succ n ih =>
    rcases Nat.lt_or_eq_of_le h with h1 | rfl
    · rw [okN, Bool.and_eq_true] at hn
      exact ih (by omega) hn.1
    · exact hn
theorem okN_bad {sp : Nat} {t : ByteArray} {k : Nat} (h : posOK sp t k = false) (hk : k < 11) : okN sp t 11 = false := by
  cases hx : okN sp t 11
  · rfl
  · have := okN_le (show k + 1 ≤ 11 by omega) hx
    rw [okN, h, Bool.and_false] at this
    cases this
theorem pos_dig {sp : Nat} {t : ByteArray} {k : Nat} (h : posOK sp t k = true) (hk : k % 3 ≠ 2) : 0 ≤ dig t k ∧ dig t k ≤ 9 := by
  unfold posOK at h
  rw [if_neg hk, Bool.and_eq_true] at h
  have h1 := of_decide_eq_true h.1
  have h2 := of_decide_eq_true h.2
  unfold dig; omega
theorem okN_at {sp : Nat} {t : ByteArray} {k n : Nat} (h : okN sp t n = true) (hk : k < n) : posOK sp t k = true := by
  have := okN_le (show k + 1 ≤ n by omega) h
  rw [okN, Bool.and_eq_true] at this
  exact this.2
theorem pc_range {sp : Nat} {t : ByteArray} {k q : Nat} (h : okN sp t k = true) : 0 ≤ pcC t k q ∧ pcC t k q ≤ 99 := by
  unfold pcC
  split
  · omega
  · have h1 := pos_dig (okN_at (k := 3 * q) h (by omega)) (by omega)
    split
    · omega
    · have h2 := pos_dig (okN_at (k := 3 * q + 1) h (by omega)) (by omega)
      unfold numC; omega
theorem num_range {sp : Nat} {t : ByteArray} {q : Nat} (h : okN sp t 11 = true) (hq : q < 4) : 0 ≤ numC t q ∧ numC t q ≤ 99 := by
  have h1 := pos_dig (okN_at (k := 3 * q) h (by omega)) (by omega)
  have h2 := pos_dig (okN_at (k := 3 * q + 1) h (by omega)) (by omega)
  unfold numC; omega
theorem pc_end {t : ByteArray} {q : Nat} (hq : q < 4) : pcC t 11 q = numC t q := by
  unfold pcC
  rw [if_neg (by omega), if_neg (by omega)]
theorem pc_skip {t : ByteArray} {k q : Nat} (hk : k % 3 = 2) : pcC t (k + 1) q = pcC t k q := by
  unfold pcC
  by_cases h : k ≤ 3 * q
  · rw [if_pos h, if_pos (by omega)]
  · rw [if_neg h, if_neg (by omega), if_neg (by omega), if_neg (by omega)]
theorem pc_other {t : ByteArray} {k q : Nat} (hq : q ≠ k / 3) : pcC t (k + 1) q = pcC t k q := by
  unfold pcC
  by_cases h : k ≤ 3 * q
  · rw [if_pos h, if_pos (by omega)]
  · rw [if_neg h, if_neg (by omega), if_neg (by omega), if_neg (by omega)]
theorem pc_here {t : ByteArray} {k : Nat} (hk : k % 3 ≠ 2) : pcC t (k + 1) (k / 3) = 10 * pcC t k (k / 3) + dig t k := by
  unfold pcC
  rcases (by omega : k % 3 = 0 ∨ k % 3 = 1) with h | h
  · rw [if_neg (by omega), if_pos (by omega), if_pos (by omega), show 3 * (k / 3) = k by omega]; omega
  · rw [if_neg (by omega), if_neg (by omega), if_neg (by omega), if_pos (by omega)]
    unfold numC
    rw [show 3 * (k / 3) + 1 = k by omega]
/-- Four integers in a block. -/
def arrI (f : Nat → Int) : Array Value := #[.int .i64 (f 0), .int .i64 (f 1), .int .i64 (f 2), .int .i64 (f 3)]
theorem arrI_at (f : Nat → Int) {q : Nat} (h : q < 4) : (arrI f)[q]? = some (.int .i64 (f q)) := by
  rcases (by omega : q = 0 ∨ q = 1 ∨ q = 2 ∨ q = 3) with rfl | rfl | rfl | rfl <;> rfl
theorem arrI_set {f g : Nat → Int} {k : Nat} {v : Int} (hk : k < 4) (hv : v = g k) (h : ∀ q, q ≠ k → g q = f q) : (arrI f).setIfInBounds k (.int .i64 v) = arrI g := by
  subst hv
  rcases (by omega : k = 0 ∨ k = 1 ∨ k = 2 ∨ k = 3) with rfl | rfl | rfl | rfl <;> simp [arrI, h]
theorem sepN_two (r : Int) : sepN r = 58 ∨ sepN r = 59 := by unfold sepN; split <;> simp
theorem bx_eqd2 {w w' : World} {b m : Nat} {T : TypeId} {cs : Array Value} (h : w' = w.drewN m) (x : Bx w b T cs) : Bx w' b T cs := by rw [h]; exact x.drewN m
theorem b_eqd2 {W w w' : World} {B m : Nat} (h : w' = w.drewN m) (x : Below B W w) : Below B W w' := by rw [h]; exact below_drewN x m
theorem form_at {r : Int} {k : Nat} (fm : ByteArray) (hf : fm = ⟨#[48, 48, 58, 48, 48, 58, 48, 48, UInt8.ofNat (sepN r), 48, 48]⟩) (hk : k < 11) (h : k < fm.size) : (fm[k]).toNat = formN (sepN r) k := by
  rw [bt_get]
  subst hf
  have hs : (UInt8.ofNat (sepN r)).toNat = sepN r := by unfold sepN; split <;> rfl
  rcases (by omega : k = 0 ∨ k = 1 ∨ k = 2 ∨ k = 3 ∨ k = 4 ∨ k = 5 ∨ k = 6 ∨ k = 7 ∨ k = 8 ∨ k = 9 ∨ k = 10) with rfl | rfl | rfl | rfl | rfl | rfl | rfl | rfl | rfl | rfl | rfl
  all_goals first | exact hs | rfl

set_option maxRecDepth 100000 in
set_option maxHeartbeats 8000000 in
theorem conform_ParseCode (r : Int) (t : ByteArray) (W : World) (va vb vc vd vE : Int) (h : parseC r t = (va, vb, vc, vd, vE)) : Calls Tryz.prog 47 #[.int .i64 r, .string t] W fun e w' => e = .returned (.tuple #[.agg #[.int .i64 va, .int .i64 vb, .int .i64 vc, .int .i64 vd], .int .i64 vE]) ∧ Below W.heap.size W w' := by
  have H := Lib.hid h
  clear h
  go_enter Tryz.func47, Tryz.ntmps47
  go_wp2_with fail
  refine (conform_isRate r _).mono ?_
  rintro e w1 ⟨rfl, hb1⟩
  have x4 := (Bx.new W 61 #[.int .i64 0, .int .i64 0, .int .i64 0, .int .i64 0]).keep hb1
  have B := bcall (bnew (Below.refl _ W)) hb1
  clear hb1
  obtain ⟨q4, f4, l4⟩ := x4.all
  cases hr : rateB r
  · have hv := H.out
    unfold parseC at hv
    rw [if_pos hr] at hv
    cases hv
    go_wp2_with fail
    exact bodyPost_ret (v := .tuple #[.agg #[.int .i64 0, .int .i64 0, .int .i64 0, .int .i64 0], .int .i64 1]) (by simp [results, Tryz.results47, go_sem, q4]) rfl ⟨rfl, bput (by omega) (bput (by omega) (bput (by omega) (bput (by omega) B)))⟩
  by_cases hn : t.size = 11
  rotate_left
  · have hn1 : ((t.size : Int) != 11) = true := by simp; omega
    have hv := H.out
    unfold parseC at hv
    rw [if_neg (by rw [hr]; decide), if_pos (Or.inl hn)] at hv
    cases hv
    clear hn
    by_cases b1 : r = 29
    · have eb1 : (r == 29) = true := by simpa using b1
      clear b1 hr
      go_wp2_with fail
      exact bodyPost_ret (v := .tuple #[.agg #[.int .i64 0, .int .i64 0, .int .i64 0, .int .i64 0], .int .i64 9]) (by simp [results, Tryz.results47, go_sem, q4]) rfl ⟨rfl, bput (by omega) (bput (by omega) (bput (by omega) (bput (by omega) B)))⟩
    · have eb1 : (r == 29) = false := by simpa using b1
      go_wp2_with fail
      exact bodyPost_ret (v := .tuple #[.agg #[.int .i64 0, .int .i64 0, .int .i64 0, .int .i64 0], .int .i64 9]) (by simp [results, Tryz.results47, go_sem, q4]) rfl ⟨rfl, bput (by omega) (bput (by omega) (bput (by omega) (bput (by omega) B)))⟩
  have hn1 : (t.size : Int) = 11 := by omega
  have hform : ∃ fm : ByteArray, fm = ⟨#[48, 48, 58, 48, 48, 58, 48, 48, UInt8.ofNat (sepN r), 48, 48]⟩ ∧ fm.size = 11 := ⟨_, rfl, rfl⟩
  obtain ⟨fm, hfm, hfs⟩ := hform
  have hfs1 : (fm.size : Int) = 11 := by omega
  have Hf : Hid (∀ k (_ : k < 11) (h : k < fm.size), (fm[k]).toNat = formN (sepN r) k) := Lib.hid (fun k hk h => form_at fm hfm hk h)
  have Hfm := Lib.hid hfm
  clear hfm
  by_cases b1 : r = 29
  · have eb1 : (r == 29) = true := by simpa using b1
    have hlit : (⟨#[48, 48, 58, 48, 48, 58, 48, 48, 59, 48, 48]⟩ : ByteArray) = fm := by rw [Hfm.out]; unfold sepN; rw [if_pos b1]; rfl
    have Hr := Lib.hid hr
    clear hr b1
    go_upto_region 6 with fail
    rw [hlit]
    clear hlit eb1 Hfm
    go_wp2_with fail
    skip
    refine name_world ?_
    intro w2 hw2
    obtain ⟨b7, hb7⟩ : ∃ b7, b7 = w1.heap.size := ⟨_, rfl⟩
    rw [← hb7]
    have x7 : Bx w2 b7 58 (arrI (pcC t 0)) := by rw [hw2, hb7]; exact Bx.new _ _ _
    replace x4 : Bx w2 W.heap.size 61 #[.int .i64 0, .int .i64 0, .int .i64 0, .int .i64 0] := by rw [hw2]; exact x4.alloc _
    replace B : Below W.heap.size W w2 := by rw [hw2]; exact bnew B
    have h47 : W.heap.size < b7 := by rw [hb7]; exact l4
    clear hw2 hb7 q4 f4 l4
    go_loopw [26] (fun i wr => ∃ k : Nat, k ≤ 11 ∧ i = .int .i64 (k : Int) ∧ okN (sepN r) t k = true ∧ Bx wr W.heap.size 61 #[.int .i64 0, .int .i64 0, .int .i64 0, .int .i64 0] ∧ Bx wr b7 58 (arrI (pcC t k)) ∧ Below W.heap.size W wr) (fun i _ => 11 - (intOf i).toNat)
    case atStart => exact ⟨0, by omega, rfl, rfl, x4, x7, B⟩
    case round =>
      clear x4 x7 B
      obtain ⟨k, hk, rfl, hok, x4, x7, B⟩ := hrel
      obtain ⟨q4, f4, l4⟩ := x4.all
      obtain ⟨q7, f7, l7⟩ := x7.all
      by_cases hlt : k < 11
      · have hkt : k < t.size := by omega
        have hkf : k < fm.size := by omega
        have hkt1 : (k : Int) < (t.size : Int) := by omega
        have hkf1 : (k : Int) < (fm.size : Int) := by omega
        obtain ⟨c, hc⟩ : ∃ c, (t[k]'hkt).toNat = c := ⟨_, rfl⟩
        obtain ⟨f, hf⟩ : ∃ f, (fm[k]'hkf).toNat = f := ⟨_, rfl⟩
        have hcb : bt t k = c := by rw [← bt_get hkt]; exact hc
        have hff : f = formN (sepN r) k := by rw [← hf]; exact Hf.out k hlt hkf
        have c256 : c < 256 := by rw [← hc]; exact (t[k]'hkt).toNat_lt
        by_cases hm : k % 3 = 2
        · have hf2 : f = 58 ∨ f = 59 := by have hs := sepN_two r; rw [hff]; unfold formN; rw [if_pos hm]; split <;> omega
          have hpos : posOK (sepN r) t k = decide (c = f) := by unfold posOK; rw [if_pos hm, hcb, ← hff]
          have f48 : ((f : Int) != 48) = true := by simp; omega
          have f48e : ((f : Int) == 48) = false := by simp; omega
          by_cases hcf : c = f
          · have cf : ((c : Int) != (f : Int)) = false := by simp; omega
            have e48 : decide (48 ≤ (c : Int)) = true := decide_eq_true (by omega)
            have e57 : decide ((c : Int) ≤ 57) = false := decide_eq_false (by omega)
            have hok2 : okN (sepN r) t (k + 1) = true := by rw [okN, hok, hpos, decide_eq_true hcf]; rfl
            have x7' : Bx wr b7 58 (arrI (pcC t (k + 1))) := by
              rw [show pcC t (k + 1) = pcC t k from funext fun q => pc_skip hm]; exact x7
            clear hf2 hpos hcf hff hcb c256 hm hok x7
            go_wp2_with fail
            go_quiet (fail)
            go_wp2_with fail
            go_roundw
            case rel => exact ⟨k + 1, by omega, by go_num, hok2, x4, x7', below_drewN B _⟩
            case measure => simp [intOf]; omega
          · have cf : ((c : Int) != (f : Int)) = true := by simp; omega
            have hbad : posOK (sepN r) t k = false := by rw [hpos]; exact decide_eq_false hcf
            have hv := H.out
            unfold parseC at hv
            rw [if_neg (by rw [Hr.out]; decide), if_pos (Or.inr (okN_bad hbad hlt))] at hv
            cases hv
            clear hbad
            clear hf2 hpos hcf hff hcb hm hok x7
            rcases (by omega : c < 48 ∨ (48 ≤ c ∧ c ≤ 57) ∨ 57 < c) with g | g | g
            · have e48 : decide (48 ≤ (c : Int)) = false := decide_eq_false (by omega)
              clear g c256
              go_wp2_with fail
              go_quiet (fail)
              go_wp2_with fail
              exact bodyPost_ret (v := .tuple #[.agg #[.int .i64 0, .int .i64 0, .int .i64 0, .int .i64 0], .int .i64 9]) (by simp [results, Tryz.results47, go_sem, q4]) rfl ⟨rfl, bput (by omega) (bput (by omega) (bput (by omega) (bput (by omega) (below_drewN B _))))⟩
            · have e48 : decide (48 ≤ (c : Int)) = true := decide_eq_true (by omega)
              have e57 : decide ((c : Int) ≤ 57) = true := decide_eq_true (by omega)
              clear g c256
              go_wp2_with fail
              go_quiet (fail)
              go_wp2_with fail
              exact bodyPost_ret (v := .tuple #[.agg #[.int .i64 0, .int .i64 0, .int .i64 0, .int .i64 0], .int .i64 9]) (by simp [results, Tryz.results47, go_sem, q4]) rfl ⟨rfl, bput (by omega) (bput (by omega) (bput (by omega) (bput (by omega) (below_drewN B _))))⟩
            · have e48 : decide (48 ≤ (c : Int)) = true := decide_eq_true (by omega)
              have e57 : decide ((c : Int) ≤ 57) = false := decide_eq_false (by omega)
              clear g c256
              go_wp2_with fail
              go_quiet (fail)
              go_wp2_with fail
              exact bodyPost_ret (v := .tuple #[.agg #[.int .i64 0, .int .i64 0, .int .i64 0, .int .i64 0], .int .i64 9]) (by simp [results, Tryz.results47, go_sem, q4]) rfl ⟨rfl, bput (by omega) (bput (by omega) (bput (by omega) (bput (by omega) (below_drewN B _))))⟩
        · have hf2 : f = 48 := by rw [hff]; unfold formN; rw [if_neg hm]
          have hpos : posOK (sepN r) t k = (decide (48 ≤ c) && decide (c ≤ 57)) := by unfold posOK; rw [if_neg hm, hcb]
          have f48 : ((f : Int) != 48) = false := by simp; omega
          have f48e : ((f : Int) == 48) = true := by simp; omega
          rcases (by omega : c < 48 ∨ (48 ≤ c ∧ c ≤ 57) ∨ 57 < c) with g | g | g
          · have e48 : decide (48 ≤ (c : Int)) = false := decide_eq_false (by omega)
            have hbad : posOK (sepN r) t k = false := by rw [hpos, decide_eq_false (by omega)]; rfl
            have hv := H.out
            unfold parseC at hv
            rw [if_neg (by rw [Hr.out]; decide), if_pos (Or.inr (okN_bad hbad hlt))] at hv
            cases hv
            clear hbad
            clear hf2 hpos hff hcb hm hok x7 g c256
            go_wp2_with fail
            go_quiet (fail)
            go_wp2_with fail
            exact bodyPost_ret (v := .tuple #[.agg #[.int .i64 0, .int .i64 0, .int .i64 0, .int .i64 0], .int .i64 9]) (by simp [results, Tryz.results47, go_sem, q4]) rfl ⟨rfl, bput (by omega) (bput (by omega) (bput (by omega) (bput (by omega) (below_drewN B _))))⟩
          · have e48 : decide (48 ≤ (c : Int)) = true := decide_eq_true (by omega)
            have e57 : decide ((c : Int) ≤ 57) = true := decide_eq_true (by omega)
            have hok2 : okN (sepN r) t (k + 1) = true := by rw [okN, hok, hpos, decide_eq_true g.1, decide_eq_true g.2]; rfl
            obtain ⟨g1, g2⟩ := g
            obtain ⟨q, hq⟩ : ∃ q, q = k / 3 := ⟨_, rfl⟩
            have hq4 : q < 4 := by omega
            have hqi : (k : Int) / 3 = (q : Int) := by omega
            have hpr := pc_range (q := q) hok
            have hnew : pcC t (k + 1) q = 10 * pcC t k q + ((c : Int) - 48) := by
              rw [hq, pc_here hm]; unfold dig; rw [hcb]
            obtain ⟨v, hv⟩ : ∃ v, pcC t k q = v := ⟨_, rfl⟩
            rw [hv] at hpr hnew
            obtain ⟨p0, p1⟩ := hpr
            have ha : (arrI (pcC t k)).setIfInBounds q (.int .i64 (10 * v + ((c : Int) - 48))) = arrI (pcC t (k + 1)) := arrI_set hq4 hnew.symm (fun q' hne => pc_other (by omega))
            have hcell : wr.cell? ⟨b7, q, none⟩ = some (.int .i64 v) := by rw [q7, arrI_at _ hq4, hv]
            have Ha := Lib.hid ha
            clear hf2 hpos hff hcb hm hok hq hnew hv ha
            go_wp2_with fail
            go_quiet (fail)
            go_upto_region 16 with fail
            refine name_world ?_
            intro wz hwz
            replace x4 := bx_eqd2 hwz x4
            replace x7 := bx_eqd2 hwz x7
            replace B := b_eqd2 hwz B
            replace hcell : wz.cell? ⟨b7, q, none⟩ = some (.int .i64 v) := by rw [hwz]; exact hcell
            clear hwz q4 f4 l4 q7 f7 l7
            obtain ⟨q7, f7, l7⟩ := x7.all
            clear q7
            go_region
            all_goals go_wp2_with fail
            all_goals go_roundw
            case rel =>
              have y7 := x7.set q (.int .i64 (10 * v + ((c : Int) - 48)))
              rw [Ha.out] at y7
              exact ⟨k + 1, by omega, by go_num, hok2, x4.other _ _ (by simp; omega), y7, (bput (by omega) B).drew⟩
            case measure => simp [intOf]; omega
          · have e48 : decide (48 ≤ (c : Int)) = true := decide_eq_true (by omega)
            have e57 : decide ((c : Int) ≤ 57) = false := decide_eq_false (by omega)
            have hbad : posOK (sepN r) t k = false := by rw [hpos, decide_eq_false (show ¬ c ≤ 57 by omega), Bool.and_false]
            have hv := H.out
            unfold parseC at hv
            rw [if_neg (by rw [Hr.out]; decide), if_pos (Or.inr (okN_bad hbad hlt))] at hv
            cases hv
            clear hbad
            clear hf2 hpos hff hcb hm hok x7 g c256
            go_wp2_with fail
            go_quiet (fail)
            go_wp2_with fail
            exact bodyPost_ret (v := .tuple #[.agg #[.int .i64 0, .int .i64 0, .int .i64 0, .int .i64 0], .int .i64 9]) (by simp [results, Tryz.results47, go_sem, q4]) rfl ⟨rfl, bput (by omega) (bput (by omega) (bput (by omega) (bput (by omega) (below_drewN B _))))⟩
      · obtain rfl : k = 11 := by omega
        have hnum : arrI (pcC t 11) = #[.int .i64 (numC t 0), .int .i64 (numC t 1), .int .i64 (numC t 2), .int .i64 (numC t 3)] := by
          unfold arrI; rw [pc_end (by omega), pc_end (by omega), pc_end (by omega), pc_end (by omega)]
        rw [hnum] at x7
        clear hnum q4 f4 l4 q7 f7 l7 hlt
        obtain ⟨q7, f7, l7⟩ := x7.all
        have hv := H.out
        unfold parseC at hv
        rw [if_neg (by rw [Hr.out]; decide), if_neg (by rw [hok]; simp [hn])] at hv
        clear H hok
        generalize numC t 0 = n0 at x7 q7 hv
        generalize numC t 1 = n1 at x7 q7 hv
        generalize numC t 2 = n2 at x7 q7 hv
        generalize numC t 3 = n3 at x7 q7 hv
        go_upto_region 19 with fail
        refine name_world ?_
        intro wy hwy
        have z10 : Bx wy wr.heap.size 61 #[.int .i64 n0, .int .i64 n1, .int .i64 n2, .int .i64 n3] := by rw [hwy]; exact Bx.new _ _ _
        have z4 : Bx wy W.heap.size 61 #[.int .i64 0, .int .i64 0, .int .i64 0, .int .i64 0] := by rw [hwy]; exact x4.alloc _
        have B2 : Below W.heap.size W wy := by rw [hwy]; exact bnew B
        clear hwy x4 x7 B q7 f7 l7
        obtain ⟨q10, f10, l10⟩ := z10.all
        go_wp2_with fail
        refine (conform_checkCode r n0 n1 n2 n3 _).mono ?_
        rintro e w3 ⟨rfl, hb3⟩
        have y4 := z4.keep hb3
        have y10 := z10.keep hb3
        have B := bcall B2 hb3
        clear hb3 z4 z10 B2 q10 f10 l10
        obtain ⟨q4, f4, l4⟩ := y4.all
        obtain ⟨q10, f10, l10⟩ := y10.all
        obtain ⟨e, he⟩ : ∃ e, codeE r n0 n1 n2 n3 = e := ⟨_, rfl⟩
        rw [he] at hv ⊢
        clear he
        by_cases h0 : e = 0
        · subst h0
          rw [if_neg (by simp)] at hv
          cases hv
          go_wp2_with fail
          exact bodyPost_ret (v := .tuple #[.agg #[.int .i64 va, .int .i64 vb, .int .i64 vc, .int .i64 vd], .int .i64 0]) (by simp [results, Tryz.results47, go_sem, q4]) rfl ⟨rfl, bput (by omega) (bput (by omega) (bput (by omega) (bput (by omega) B)))⟩
        · have h0' : (e != 0) = true := by simpa using h0
          rw [if_pos h0] at hv
          cases hv
          clear h0
          go_wp2_with fail
          exact bodyPost_ret (v := .tuple #[.agg #[.int .i64 0, .int .i64 0, .int .i64 0, .int .i64 0], .int .i64 vE]) (by simp [results, Tryz.results47, go_sem, q4]) rfl ⟨rfl, bput (by omega) (bput (by omega) (bput (by omega) (bput (by omega) B)))⟩

  · have eb1 : (r == 29) = false := by simpa using b1
    have hlit : (⟨#[48, 48, 58, 48, 48, 58, 48, 48, 58, 48, 48]⟩ : ByteArray) = fm := by rw [Hfm.out]; unfold sepN; rw [if_neg b1]; rfl
    have Hr := Lib.hid hr
    clear hr b1
    go_upto_region 6 with fail
    rw [hlit]
    clear hlit eb1 Hfm
    go_wp2_with fail
    skip
    refine name_world ?_
    intro w2 hw2
    obtain ⟨b7, hb7⟩ : ∃ b7, b7 = w1.heap.size := ⟨_, rfl⟩
    rw [← hb7]
    have x7 : Bx w2 b7 58 (arrI (pcC t 0)) := by rw [hw2, hb7]; exact Bx.new _ _ _
    replace x4 : Bx w2 W.heap.size 61 #[.int .i64 0, .int .i64 0, .int .i64 0, .int .i64 0] := by rw [hw2]; exact x4.alloc _
    replace B : Below W.heap.size W w2 := by rw [hw2]; exact bnew B
    have h47 : W.heap.size < b7 := by rw [hb7]; exact l4
    clear hw2 hb7 q4 f4 l4
    go_loopw [26] (fun i wr => ∃ k : Nat, k ≤ 11 ∧ i = .int .i64 (k : Int) ∧ okN (sepN r) t k = true ∧ Bx wr W.heap.size 61 #[.int .i64 0, .int .i64 0, .int .i64 0, .int .i64 0] ∧ Bx wr b7 58 (arrI (pcC t k)) ∧ Below W.heap.size W wr) (fun i _ => 11 - (intOf i).toNat)
    case atStart => exact ⟨0, by omega, rfl, rfl, x4, x7, B⟩
    case round =>
      clear x4 x7 B
      obtain ⟨k, hk, rfl, hok, x4, x7, B⟩ := hrel
      obtain ⟨q4, f4, l4⟩ := x4.all
      obtain ⟨q7, f7, l7⟩ := x7.all
      by_cases hlt : k < 11
      · have hkt : k < t.size := by omega
        have hkf : k < fm.size := by omega
        have hkt1 : (k : Int) < (t.size : Int) := by omega
        have hkf1 : (k : Int) < (fm.size : Int) := by omega
        obtain ⟨c, hc⟩ : ∃ c, (t[k]'hkt).toNat = c := ⟨_, rfl⟩
        obtain ⟨f, hf⟩ : ∃ f, (fm[k]'hkf).toNat = f := ⟨_, rfl⟩
        have hcb : bt t k = c := by rw [← bt_get hkt]; exact hc
        have hff : f = formN (sepN r) k := by rw [← hf]; exact Hf.out k hlt hkf
        have c256 : c < 256 := by rw [← hc]; exact (t[k]'hkt).toNat_lt
        by_cases hm : k % 3 = 2
        · have hf2 : f = 58 ∨ f = 59 := by have hs := sepN_two r; rw [hff]; unfold formN; rw [if_pos hm]; split <;> omega
          have hpos : posOK (sepN r) t k = decide (c = f) := by unfold posOK; rw [if_pos hm, hcb, ← hff]
          have f48 : ((f : Int) != 48) = true := by simp; omega
          have f48e : ((f : Int) == 48) = false := by simp; omega
          by_cases hcf : c = f
          · have cf : ((c : Int) != (f : Int)) = false := by simp; omega
            have e48 : decide (48 ≤ (c : Int)) = true := decide_eq_true (by omega)
            have e57 : decide ((c : Int) ≤ 57) = false := decide_eq_false (by omega)
            have hok2 : okN (sepN r) t (k + 1) = true := by rw [okN, hok, hpos, decide_eq_true hcf]; rfl
            have x7' : Bx wr b7 58 (arrI (pcC t (k + 1))) := by
              rw [show pcC t (k + 1) = pcC t k from funext fun q => pc_skip hm]; exact x7
            clear hf2 hpos hcf hff hcb c256 hm hok x7
            go_wp2_with fail
            go_quiet (fail)
            go_wp2_with fail
            go_roundw
            case rel => exact ⟨k + 1, by omega, by go_num, hok2, x4, x7', below_drewN B _⟩
            case measure => simp [intOf]; omega
          · have cf : ((c : Int) != (f : Int)) = true := by simp; omega
            have hbad : posOK (sepN r) t k = false := by rw [hpos]; exact decide_eq_false hcf
            have hv := H.out
            unfold parseC at hv
            rw [if_neg (by rw [Hr.out]; decide), if_pos (Or.inr (okN_bad hbad hlt))] at hv
            cases hv
            clear hbad
            clear hf2 hpos hcf hff hcb hm hok x7
            rcases (by omega : c < 48 ∨ (48 ≤ c ∧ c ≤ 57) ∨ 57 < c) with g | g | g
            · have e48 : decide (48 ≤ (c : Int)) = false := decide_eq_false (by omega)
              clear g c256
              go_wp2_with fail
              go_quiet (fail)
              go_wp2_with fail
              exact bodyPost_ret (v := .tuple #[.agg #[.int .i64 0, .int .i64 0, .int .i64 0, .int .i64 0], .int .i64 9]) (by simp [results, Tryz.results47, go_sem, q4]) rfl ⟨rfl, bput (by omega) (bput (by omega) (bput (by omega) (bput (by omega) (below_drewN B _))))⟩
            · have e48 : decide (48 ≤ (c : Int)) = true := decide_eq_true (by omega)
              have e57 : decide ((c : Int) ≤ 57) = true := decide_eq_true (by omega)
              clear g c256
              go_wp2_with fail
              go_quiet (fail)
              go_wp2_with fail
              exact bodyPost_ret (v := .tuple #[.agg #[.int .i64 0, .int .i64 0, .int .i64 0, .int .i64 0], .int .i64 9]) (by simp [results, Tryz.results47, go_sem, q4]) rfl ⟨rfl, bput (by omega) (bput (by omega) (bput (by omega) (bput (by omega) (below_drewN B _))))⟩
            · have e48 : decide (48 ≤ (c : Int)) = true := decide_eq_true (by omega)
              have e57 : decide ((c : Int) ≤ 57) = false := decide_eq_false (by omega)
              clear g c256
              go_wp2_with fail
              go_quiet (fail)
              go_wp2_with fail
              exact bodyPost_ret (v := .tuple #[.agg #[.int .i64 0, .int .i64 0, .int .i64 0, .int .i64 0], .int .i64 9]) (by simp [results, Tryz.results47, go_sem, q4]) rfl ⟨rfl, bput (by omega) (bput (by omega) (bput (by omega) (bput (by omega) (below_drewN B _))))⟩
        · have hf2 : f = 48 := by rw [hff]; unfold formN; rw [if_neg hm]
          have hpos : posOK (sepN r) t k = (decide (48 ≤ c) && decide (c ≤ 57)) := by unfold posOK; rw [if_neg hm, hcb]
          have f48 : ((f : Int) != 48) = false := by simp; omega
          have f48e : ((f : Int) == 48) = true := by simp; omega
          rcases (by omega : c < 48 ∨ (48 ≤ c ∧ c ≤ 57) ∨ 57 < c) with g | g | g
          · have e48 : decide (48 ≤ (c : Int)) = false := decide_eq_false (by omega)
            have hbad : posOK (sepN r) t k = false := by rw [hpos, decide_eq_false (by omega)]; rfl
            have hv := H.out
            unfold parseC at hv
            rw [if_neg (by rw [Hr.out]; decide), if_pos (Or.inr (okN_bad hbad hlt))] at hv
            cases hv
            clear hbad
            clear hf2 hpos hff hcb hm hok x7 g c256
            go_wp2_with fail
            go_quiet (fail)
            go_wp2_with fail
            exact bodyPost_ret (v := .tuple #[.agg #[.int .i64 0, .int .i64 0, .int .i64 0, .int .i64 0], .int .i64 9]) (by simp [results, Tryz.results47, go_sem, q4]) rfl ⟨rfl, bput (by omega) (bput (by omega) (bput (by omega) (bput (by omega) (below_drewN B _))))⟩
          · have e48 : decide (48 ≤ (c : Int)) = true := decide_eq_true (by omega)
            have e57 : decide ((c : Int) ≤ 57) = true := decide_eq_true (by omega)
            have hok2 : okN (sepN r) t (k + 1) = true := by rw [okN, hok, hpos, decide_eq_true g.1, decide_eq_true g.2]; rfl
            obtain ⟨g1, g2⟩ := g
            obtain ⟨q, hq⟩ : ∃ q, q = k / 3 := ⟨_, rfl⟩
            have hq4 : q < 4 := by omega
            have hqi : (k : Int) / 3 = (q : Int) := by omega
            have hpr := pc_range (q := q) hok
            have hnew : pcC t (k + 1) q = 10 * pcC t k q + ((c : Int) - 48) := by
              rw [hq, pc_here hm]; unfold dig; rw [hcb]
            obtain ⟨v, hv⟩ : ∃ v, pcC t k q = v := ⟨_, rfl⟩
            rw [hv] at hpr hnew
            obtain ⟨p0, p1⟩ := hpr
            have ha : (arrI (pcC t k)).setIfInBounds q (.int .i64 (10 * v + ((c : Int) - 48))) = arrI (pcC t (k + 1)) := arrI_set hq4 hnew.symm (fun q' hne => pc_other (by omega))
            have hcell : wr.cell? ⟨b7, q, none⟩ = some (.int .i64 v) := by rw [q7, arrI_at _ hq4, hv]
            have Ha := Lib.hid ha
            clear hf2 hpos hff hcb hm hok hq hnew hv ha
            go_wp2_with fail
            go_quiet (fail)
            go_upto_region 16 with fail
            refine name_world ?_
            intro wz hwz
            replace x4 := bx_eqd2 hwz x4
            replace x7 := bx_eqd2 hwz x7
            replace B := b_eqd2 hwz B
            replace hcell : wz.cell? ⟨b7, q, none⟩ = some (.int .i64 v) := by rw [hwz]; exact hcell
            clear hwz q4 f4 l4 q7 f7 l7
            obtain ⟨q7, f7, l7⟩ := x7.all
            clear q7
            go_region
            all_goals go_wp2_with fail
            all_goals go_roundw
            case rel =>
              have y7 := x7.set q (.int .i64 (10 * v + ((c : Int) - 48)))
              rw [Ha.out] at y7
              exact ⟨k + 1, by omega, by go_num, hok2, x4.other _ _ (by simp; omega), y7, (bput (by omega) B).drew⟩
            case measure => simp [intOf]; omega
          · have e48 : decide (48 ≤ (c : Int)) = true := decide_eq_true (by omega)
            have e57 : decide ((c : Int) ≤ 57) = false := decide_eq_false (by omega)
            have hbad : posOK (sepN r) t k = false := by rw [hpos, decide_eq_false (show ¬ c ≤ 57 by omega), Bool.and_false]
            have hv := H.out
            unfold parseC at hv
            rw [if_neg (by rw [Hr.out]; decide), if_pos (Or.inr (okN_bad hbad hlt))] at hv
            cases hv
            clear hbad
            clear hf2 hpos hff hcb hm hok x7 g c256
            go_wp2_with fail
            go_quiet (fail)
            go_wp2_with fail
            exact bodyPost_ret (v := .tuple #[.agg #[.int .i64 0, .int .i64 0, .int .i64 0, .int .i64 0], .int .i64 9]) (by simp [results, Tryz.results47, go_sem, q4]) rfl ⟨rfl, bput (by omega) (bput (by omega) (bput (by omega) (bput (by omega) (below_drewN B _))))⟩
      · obtain rfl : k = 11 := by omega
        have hnum : arrI (pcC t 11) = #[.int .i64 (numC t 0), .int .i64 (numC t 1), .int .i64 (numC t 2), .int .i64 (numC t 3)] := by
          unfold arrI; rw [pc_end (by omega), pc_end (by omega), pc_end (by omega), pc_end (by omega)]
        rw [hnum] at x7
        clear hnum q4 f4 l4 q7 f7 l7 hlt
        obtain ⟨q7, f7, l7⟩ := x7.all
        have hv := H.out
        unfold parseC at hv
        rw [if_neg (by rw [Hr.out]; decide), if_neg (by rw [hok]; simp [hn])] at hv
        clear H hok
        generalize numC t 0 = n0 at x7 q7 hv
        generalize numC t 1 = n1 at x7 q7 hv
        generalize numC t 2 = n2 at x7 q7 hv
        generalize numC t 3 = n3 at x7 q7 hv
        go_upto_region 19 with fail
        refine name_world ?_
        intro wy hwy
        have z10 : Bx wy wr.heap.size 61 #[.int .i64 n0, .int .i64 n1, .int .i64 n2, .int .i64 n3] := by rw [hwy]; exact Bx.new _ _ _
        have z4 : Bx wy W.heap.size 61 #[.int .i64 0, .int .i64 0, .int .i64 0, .int .i64 0] := by rw [hwy]; exact x4.alloc _
        have B2 : Below W.heap.size W wy := by rw [hwy]; exact bnew B
        clear hwy x4 x7 B q7 f7 l7
        obtain ⟨q10, f10, l10⟩ := z10.all
        go_wp2_with fail
        refine (conform_checkCode r n0 n1 n2 n3 _).mono ?_
        rintro e w3 ⟨rfl, hb3⟩
        have y4 := z4.keep hb3
        have y10 := z10.keep hb3
        have B := bcall B2 hb3
        clear hb3 z4 z10 B2 q10 f10 l10
        obtain ⟨q4, f4, l4⟩ := y4.all
        obtain ⟨q10, f10, l10⟩ := y10.all
        obtain ⟨e, he⟩ : ∃ e, codeE r n0 n1 n2 n3 = e := ⟨_, rfl⟩
        rw [he] at hv ⊢
        clear he
        by_cases h0 : e = 0
        · subst h0
          rw [if_neg (by simp)] at hv
          cases hv
          go_wp2_with fail
          exact bodyPost_ret (v := .tuple #[.agg #[.int .i64 va, .int .i64 vb, .int .i64 vc, .int .i64 vd], .int .i64 0]) (by simp [results, Tryz.results47, go_sem, q4]) rfl ⟨rfl, bput (by omega) (bput (by omega) (bput (by omega) (bput (by omega) B)))⟩
        · have h0' : (e != 0) = true := by simpa using h0
          rw [if_pos h0] at hv
          cases hv
          clear h0
          go_wp2_with fail
          exact bodyPost_ret (v := .tuple #[.agg #[.int .i64 0, .int .i64 0, .int .i64 0, .int .i64 0], .int .i64 vE]) (by simp [results, Tryz.results47, go_sem, q4]) rfl ⟨rfl, bput (by omega) (bput (by omega) (bput (by omega) (bput (by omega) B)))⟩
end

section
open Go.RowKit

def numN (t : ByteArray) (q : Nat) : Nat := 10 * (bt t (3 * q) - 48) + (bt t (3 * q + 1) - 48)
def dgK (t : ByteArray) (q : Nat) : Prop := 48 ≤ bt t (3 * q) ∧ bt t (3 * q) ≤ 57 ∧ 48 ≤ bt t (3 * q + 1) ∧ bt t (3 * q + 1) ≤ 57
theorem numN_is {t : ByteArray} {q : Nat} (h : dgK t q) : (numN t q : Int) = numC t q ∧ numN t q < 100 := by
  obtain ⟨a, b, c, d⟩ := h
  unfold numN numC dig; omega
theorem two_of {a b : UInt8} (h1 : 48 ≤ a.toNat) (h2 : a.toNat ≤ 57) (h3 : 48 ≤ b.toNat) (h4 : b.toNat ≤ 57) : two (10 * (a.toNat - 48) + (b.toNat - 48)) = ⟨#[a, b]⟩ := by
  unfold two
  rw [show 48 + (10 * (a.toNat - 48) + (b.toNat - 48)) / 10 = a.toNat by omega, show 48 + (10 * (a.toNat - 48) + (b.toNat - 48)) % 10 = b.toNat by omega, UInt8.ofNat_toNat, UInt8.ofNat_toNat]
theorem list11 {l : List UInt8} (h : l.length = 11) : ∃ b0 b1 b2 b3 b4 b5 b6 b7 b8 b9 b10, l = [b0, b1, b2, b3, b4, b5, b6, b7, b8, b9, b10] := by
  obtain _ | ⟨b0, _ | ⟨b1, _ | ⟨b2, _ | ⟨b3, _ | ⟨b4, _ | ⟨b5, _ | ⟨b6, _ | ⟨b7, _ | ⟨b8, _ | ⟨b9, _ | ⟨b10, _ | ⟨b11, l⟩⟩⟩⟩⟩⟩⟩⟩⟩⟩⟩⟩ := l
  all_goals first
    | exact ⟨_, _, _, _, _, _, _, _, _, _, _, rfl⟩
    | (exfalso; simp only [List.length_cons, List.length_nil] at h; omega)
theorem dg_bad {sp : Nat} {t : ByteArray} {q : Nat} (hq : q < 4) (h : ¬ dgK t q) : okN sp t 11 = false := by
  cases hx : okN sp t 11
  · rfl
  · exfalso
    have h1 := okN_at (k := 3 * q) hx (by omega)
    have h2 := okN_at (k := 3 * q + 1) hx (by omega)
    unfold posOK at h1 h2
    rw [if_neg (by omega), Bool.and_eq_true] at h1 h2
    exact h ⟨of_decide_eq_true h1.1, of_decide_eq_true h1.2, of_decide_eq_true h2.1, of_decide_eq_true h2.2⟩
theorem text_same (r : Int) {t : ByteArray} (hs : t.size = 11) (hd : ∀ q, q < 4 → dgK t q) : ((codeB r (numN t 0) (numN t 1) (numN t 2) (numN t 3)).toList == t.toList) = okN (sepN r) t 11 := by
  obtain ⟨⟨l⟩⟩ := t
  obtain ⟨b0, b1, b2, b3, b4, b5, b6, b7, b8, b9, b10, rfl⟩ := list11 (l := l) hs
  have d0 := hd 0 (by omega)
  have d1 := hd 1 (by omega)
  have d2 := hd 2 (by omega)
  have d3 := hd 3 (by omega)
  clear hd
  simp only [dgK, bt, Nat.mul_zero, Nat.zero_add, Nat.mul_one, Nat.reduceMul, Nat.reduceAdd, List.getD_cons_zero, List.getD_cons_succ] at d0 d1 d2 d3
  obtain ⟨p0, p1, p2, p3⟩ := d0
  obtain ⟨p4, p5, p6, p7⟩ := d1
  obtain ⟨p8, p9, p10, p11⟩ := d2
  obtain ⟨p12, p13, p14, p15⟩ := d3
  have hsep : sepB r = ⟨#[UInt8.ofNat (sepN r)]⟩ := by unfold sepB sepN; split <;> rfl
  have hcode : codeB r (numN ⟨⟨[b0, b1, b2, b3, b4, b5, b6, b7, b8, b9, b10]⟩⟩ 0) (numN ⟨⟨[b0, b1, b2, b3, b4, b5, b6, b7, b8, b9, b10]⟩⟩ 1) (numN ⟨⟨[b0, b1, b2, b3, b4, b5, b6, b7, b8, b9, b10]⟩⟩ 2) (numN ⟨⟨[b0, b1, b2, b3, b4, b5, b6, b7, b8, b9, b10]⟩⟩ 3) = ⟨#[b0, b1, 58, b3, b4, 58, b6, b7, UInt8.ofNat (sepN r), b9, b10]⟩ := by
    have e0 : two (numN ⟨⟨[b0, b1, b2, b3, b4, b5, b6, b7, b8, b9, b10]⟩⟩ 0) = ⟨#[b0, b1]⟩ := two_of p0 p1 p2 p3
    have e1 : two (numN ⟨⟨[b0, b1, b2, b3, b4, b5, b6, b7, b8, b9, b10]⟩⟩ 1) = ⟨#[b3, b4]⟩ := two_of p4 p5 p6 p7
    have e2 : two (numN ⟨⟨[b0, b1, b2, b3, b4, b5, b6, b7, b8, b9, b10]⟩⟩ 2) = ⟨#[b6, b7]⟩ := two_of p8 p9 p10 p11
    have e3 : two (numN ⟨⟨[b0, b1, b2, b3, b4, b5, b6, b7, b8, b9, b10]⟩⟩ 3) = ⟨#[b9, b10]⟩ := two_of p12 p13 p14 p15
    unfold codeB
    rw [e0, e1, e2, e3, hsep]; rfl
  rw [hcode, Lib.toList_data, Lib.toList_data, Bool.eq_iff_iff, beq_iff_eq]
  have hsn : ∀ c : UInt8, UInt8.ofNat (sepN r) = c ↔ c.toNat = sepN r := by
    intro c
    have hs2 : (UInt8.ofNat (sepN r)).toNat = sepN r := by unfold sepN; split <;> rfl
    constructor
    · rintro rfl; exact hs2
    · intro h; exact UInt8.toNat_inj.1 (hs2.trans h.symm)
  have h58 : ∀ c : UInt8, 58 = c ↔ c.toNat = 58 := fun c => ⟨fun h => by subst h; rfl, fun h => UInt8.toNat_inj.1 h.symm⟩
  simp only [okN, posOK, formN, bt, List.getD_cons_zero, List.getD_cons_succ, Nat.reduceMod, Nat.reduceEqDiff, if_true, if_false, Bool.true_and, Bool.and_eq_true, decide_eq_true_eq, List.cons.injEq, true_and, and_true, h58, hsn]
  simp [p0, p1, p2, p3, p4, p5, p6, p7, p8, p9, p10, p11, p12, p13, p14, p15]
  omega
end

section
open Go.RowKit

theorem u8_nat {x : Nat} (h : x < 256) : (UInt8.ofNat x).toNat = x := by rw [UInt8.toNat_ofNat', Nat.mod_eq_of_lt h]
theorem code_bytes (r : Int) (h m s f : Nat) : codeB r h m s f = ⟨#[UInt8.ofNat (48 + h / 10), UInt8.ofNat (48 + h % 10), 58, UInt8.ofNat (48 + m / 10), UInt8.ofNat (48 + m % 10), 58, UInt8.ofNat (48 + s / 10), UInt8.ofNat (48 + s % 10), UInt8.ofNat (sepN r), UInt8.ofNat (48 + f / 10), UInt8.ofNat (48 + f % 10)]⟩ := by
  have hsep : sepB r = ⟨#[UInt8.ofNat (sepN r)]⟩ := by unfold sepB sepN; split <;> rfl
  unfold codeB two
  rw [hsep]; rfl
theorem bt_code (r : Int) {h m s f : Nat} (h1 : h < 100) (m1 : m < 100) (s1 : s < 100) (f1 : f < 100) :
    bt (codeB r h m s f) 0 = 48 + h / 10 ∧ bt (codeB r h m s f) 1 = 48 + h % 10 ∧ bt (codeB r h m s f) 2 = 58 ∧ bt (codeB r h m s f) 3 = 48 + m / 10 ∧ bt (codeB r h m s f) 4 = 48 + m % 10 ∧ bt (codeB r h m s f) 5 = 58 ∧ bt (codeB r h m s f) 6 = 48 + s / 10 ∧ bt (codeB r h m s f) 7 = 48 + s % 10 ∧ bt (codeB r h m s f) 8 = sepN r ∧ bt (codeB r h m s f) 9 = 48 + f / 10 ∧ bt (codeB r h m s f) 10 = 48 + f % 10 := by
  rw [code_bytes]
  have hs := sepN_two r
  exact ⟨u8_nat (by omega), u8_nat (by omega), rfl, u8_nat (by omega), u8_nat (by omega), rfl, u8_nat (by omega), u8_nat (by omega), u8_nat (by omega), u8_nat (by omega), u8_nat (by omega)⟩
theorem parse_print {r : Int} {h m s f : Nat} (hE : codeE r h m s f = 0) : parseC r (codeB r h m s f) = ((h : Int), (m : Int), (s : Int), (f : Int), 0) := by
  obtain ⟨hr, _, h1, _, m1, _, s1, _, f1⟩ := code_right hE
  obtain ⟨_, c0, c1⟩ := sec_cntd hr
  obtain ⟨e0, e1, e2, e3, e4, e5, e6, e7, e8, e9, e10⟩ := bt_code r (h := h) (m := m) (s := s) (f := f) (by omega) (by omega) (by omega) (by omega)
  have hsz : (codeB r h m s f).size = 11 := by rw [code_bytes]; rfl
  have n0 : numC (codeB r h m s f) 0 = h := by unfold numC dig; simp only [Nat.mul_zero, Nat.zero_add]; rw [e0, e1]; omega
  have n1 : numC (codeB r h m s f) 1 = m := by unfold numC dig; simp only [Nat.mul_one, Nat.reduceMul, Nat.reduceAdd]; rw [e3, e4]; omega
  have n2 : numC (codeB r h m s f) 2 = s := by unfold numC dig; simp only [Nat.reduceMul, Nat.reduceAdd]; rw [e6, e7]; omega
  have n3 : numC (codeB r h m s f) 3 = f := by unfold numC dig; simp only [Nat.reduceMul, Nat.reduceAdd]; rw [e9, e10]; omega
  have hok : okN (sepN r) (codeB r h m s f) 11 = true := by
    simp only [okN, posOK, formN, e0, e1, e2, e3, e4, e5, e6, e7, e8, e9, e10, Bool.true_and, Bool.and_eq_true]
    simp
    omega
  unfold parseC
  rw [if_neg (by rw [hr]; decide), if_neg (by rw [hok]; simp [hsz]), n0, n1, n2, n3, hE, if_neg (by simp)]
theorem code_zero (r : Int) : codeE r 0 0 0 0 = if rateB r = false then 1 else 0 := by
  unfold codeE
  cases hr : rateB r
  · rfl
  · have := sec_cntd hr
    rw [if_neg (by simp), if_neg (by omega), if_neg (by omega), if_neg (by simp)]
end
end Go.Proofs.YtemlabmmafcapaaGreatDoor
