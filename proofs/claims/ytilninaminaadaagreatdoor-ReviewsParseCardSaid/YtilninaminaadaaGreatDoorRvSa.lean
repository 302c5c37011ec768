/- dyelaw1.said of every kind; how long a review's text is. -/
import Derived.Test.YtilninaminaadaaGreatDoorRvPf
import Derived.Test.YtilninaminaadaaGreatDoorRvTp
import Derived.Lib.IndexLaws
import Derived.Lib.ItoaMem
import Derived.Test.YtilninaminaadaaGreatDoorRvX
namespace Go.Proofs.YtilninaminaadaaGreatDoor

section
open Go.RowKit

/-! ### Pieces -/
theorem occ_head {s t : List UInt8} {c : UInt8} {j : Nat} (h : Lib.occAt s (c :: t) j = true) : s[j]? = some c := by
  unfold Lib.occAt at h
  cases hd : s.drop j with
  | nil => rw [hd] at h; simp at h
  | cons x r =>
    rw [hd] at h
    have h1 : c = x := by simp at h; exact h.1
    have h2 := congrArg (·[0]?) hd
    simp at h2
    rw [h2, h1]
theorem mem_at {a : List UInt8} {j : Nat} {c : UInt8} (h : a[j]? = some c) : c ∈ a := List.mem_of_getElem? h
theorem idx_sep {a b t : List UInt8} {c : UInt8} (h : c ∉ a) : Lib.index (a ++ c :: t ++ b) (c :: t) = a.length := by
  refine Lib.index_first (by simp) (by simp [Lib.occAt]) fun j hj => ?_
  rw [Bool.eq_false_iff]
  intro ho
  have := occ_head ho
  rw [List.append_assoc, List.getElem?_append_left hj] at this
  exact h (mem_at this)
theorem idx_one_none {a : List UInt8} {c : UInt8} (h : c ∉ a) : Lib.index a [c] = -1 := by
  refine Lib.index_none fun j _ => ?_
  rw [Bool.eq_false_iff]
  intro ho
  exact h (mem_at (occ_head ho))
theorem spl_at {sep : ByteArray} {a b : List UInt8} (h1 : 1 ≤ sep.size) (hi : Lib.index (a ++ sep.data.toList ++ b) sep.data.toList = a.length) : spl sep (ofL (a ++ sep.data.toList ++ b)) = ofL a :: spl sep (ofL b) := by
  have hix : Lib.indexB (ofL (a ++ sep.data.toList ++ b)) sep = a.length := by
    show Lib.index _ _ = _
    rw [ofL_list]; exact hi
  rw [spl_hit h1 hix]
  congr 1
  · apply ByteArray.ext
    apply Array.toList_inj.1
    rw [ByteArray.data_extract, Array.toList_extract, ofL_list, ofL_list]
    show ((a ++ sep.data.toList ++ b).drop 0).take (a.length - 0) = a
    simp
  · congr 1
    apply ByteArray.ext
    apply Array.toList_inj.1
    rw [ByteArray.data_extract, Array.toList_extract, ofL_list, ofL_list, ofL_size]
    show ((a ++ sep.data.toList ++ b).drop (a.length + sep.size)).take (_ - (a.length + sep.size)) = b
    have hd : (a ++ sep.data.toList ++ b).drop (a.length + sep.size) = b := by
      have : a.length + sep.size = (a ++ sep.data.toList).length := by rw [List.length_append, Lib.size_eq]
      rw [this, List.drop_left]
    rw [hd]
    apply List.take_of_length_le
    simp only [List.length_append, Lib.size_eq]; omega
theorem spl_one {a b : List UInt8} {c : UInt8} (h : c ∉ a) : spl ⟨#[c]⟩ (ofL (a ++ c :: b)) = ofL a :: spl ⟨#[c]⟩ (ofL b) := by
  have := spl_at (sep := ⟨#[c]⟩) (a := a) (b := b) (by show 1 ≤ 1; omega) (idx_sep (t := []) h)
  simpa using this
theorem spl_end {a : List UInt8} {c : UInt8} (h : c ∉ a) : spl ⟨#[c]⟩ (ofL a) = [ofL a] :=
  spl_miss (show Lib.index _ _ = _ by rw [ofL_list]; exact idx_one_none h)
theorem cut_col {a b : List UInt8} (h : (58 : UInt8) ∉ a) : Lib.cut (a ++ 58 :: 32 :: b) [58, 32] = (a, b, true) := by
  have hi : Lib.index (a ++ 58 :: 32 :: b) [58, 32] = a.length := by
    have := idx_sep (t := [32]) (b := b) h
    simpa using this
  unfold Lib.cut
  rw [hi, if_pos (by omega)]
  simp

/-! ### Numbers -/
theorem digit_nat (d : Nat) (h : d < 10) : (UInt8.ofNat (48 + d)).toNat = 48 + d := by rw [UInt8.toNat_ofNat']; omega
theorem digit_val (d : Nat) (h : d < 10) : Lib.digitVal (UInt8.ofNat (48 + d)) = some d := by
  unfold Lib.digitVal
  rw [digit_nat d h, if_pos (by omega)]
  congr 1; omega
theorem decFrom_app : ∀ (l m : List UInt8) (acc : Nat), Lib.decFrom acc (l ++ m) = (Lib.decFrom acc l).bind fun v => Lib.decFrom v m
  | [], m, acc => rfl
  | c :: l, m, acc => by
    rw [List.cons_append, Lib.decFrom, Lib.decFrom]
    cases Lib.digitVal c with
    | none => rfl
    | some d => exact decFrom_app l m _
theorem decFrom_dec : ∀ (n u : Nat), u ≤ n → Lib.decFrom 0 (Lib.decDigits u) = some u
  | n, u, hn => by
    by_cases h : u < 10
    · rw [Lib.decDigits, dif_pos h, Lib.decFrom, digit_val u h]
      show Lib.decFrom (0 * 10 + u) [] = _
      rw [Lib.decFrom]; congr 1; omega
    · cases n with
      | zero => omega
      | succ n =>
        rw [Lib.decDigits, dif_neg h, decFrom_app, decFrom_dec n (u / 10) (by omega)]
        show Lib.decFrom (u / 10) [_] = _
        rw [Lib.decFrom, digit_val (u % 10) (by omega)]
        show Lib.decFrom (u / 10 * 10 + u % 10) [] = _
        rw [Lib.decFrom]; congr 1; omega
theorem dec_mem : ∀ (n u : Nat), u ≤ n → ∀ b, b ∈ Lib.decDigits u → 48 ≤ b.toNat ∧ b.toNat ≤ 57
  | n, u, hn, b, hb => by
    by_cases h : u < 10
    · rw [Lib.decDigits, dif_pos h, List.mem_singleton] at hb
      subst hb
      rw [digit_nat u h]; omega
    · cases n with
      | zero => omega
      | succ n =>
        rw [Lib.decDigits, dif_neg h, List.mem_append, List.mem_singleton] at hb
        rcases hb with hb | rfl
        · exact dec_mem n (u / 10) (by omega) b hb
        · rw [digit_nat (u % 10) (by omega)]; omega
theorem dec_len : ∀ (k u : Nat), u < 10 ^ (k + 1) → (Lib.decDigits u).length ≤ k + 1
  | 0, u, h => by rw [Lib.decDigits, dif_pos (by omega)]; simp
  | k + 1, u, h => by
    by_cases h1 : u < 10
    · rw [Lib.decDigits, dif_pos h1]; simp
    · rw [Lib.decDigits, dif_neg h1, List.length_append, List.length_singleton]
      have := dec_len k (u / 10) (by rw [Nat.pow_succ] at h; omega)
      omega
/-- The first digit. -/
theorem dec_fst : ∀ (n u : Nat), u ≤ n → ∃ c r, Lib.decDigits u = c :: r ∧ (1 ≤ u → c.toNat ≠ 48) ∧ (r ≠ [] → 1 ≤ u)
  | n, u, hn => by
    by_cases h : u < 10
    · refine ⟨_, [], by rw [Lib.decDigits, dif_pos h], fun h1 => ?_, fun h => absurd rfl h⟩
      rw [digit_nat u h]; omega
    · cases n with
      | zero => omega
      | succ n =>
        obtain ⟨c, r, h1, h2, h3⟩ := dec_fst n (u / 10) (by omega)
        refine ⟨c, r ++ [UInt8.ofNat (48 + u % 10)], ?_, fun _ => h2 (by omega), fun _ => by omega⟩
        rw [Lib.decDigits, dif_neg h, h1, List.cons_append]
theorem numI_it {n : Int} (h0 : 0 ≤ n) (h1 : n ≤ 16777216) : numI (itB n) = some n := by
  obtain ⟨u, rfl⟩ : ∃ u : Nat, n = u := ⟨n.toNat, by omega⟩
  have e : (itB (u : Int)).data.toList = Lib.decDigits u := by
    unfold itB
    rw [ofL_list]
    unfold Lib.itoa
    rw [if_neg (by omega), Int.toNat_natCast]
  obtain ⟨c, r, hc, hc1, hc2⟩ := dec_fst _ u (Nat.le_refl _)
  have hm := dec_mem _ u (Nat.le_refl _)
  have hl := dec_len 8 u (by omega)
  have hd := decFrom_dec _ u (Nat.le_refl _)
  have hcm := hm c (by rw [hc]; exact List.mem_cons_self ..)
  have ht : Lib.trimPrefix (itB (u : Int)).data.toList [45] = Lib.decDigits u := by
    rw [e]
    rcases trimPre_cases (Lib.decDigits u) with ⟨h, _⟩ | h
    · exact h
    · rw [hc] at h
      have h2 : c = 45 := (List.cons.inj h).1
      rw [h2] at hcm
      exact absurd hcm.1 (by decide)
  unfold numI
  simp only
  rw [ht, e]
  have hall : (Lib.decDigits u).all digB = true := by
    rw [List.all_eq_true]
    intro b hb
    have := hm b hb
    unfold digB
    simp only [Bool.and_eq_true, decide_eq_true_eq]
    exact this
  have hlen : (Lib.decDigits u).length ≠ 0 := by rw [hc]; simp
  rw [if_neg hlen, if_neg (by omega), if_neg (by rw [hall]; simp)]
  rw [if_neg ?_, if_neg ?_]
  · rw [hc] at hd ⊢
    have n1 : (c == 45) = false := by
      rw [beq_eq_false_iff_ne]; rintro rfl; exact absurd hcm.1 (by decide)
    have n2 : (c == 43) = false := by
      rw [beq_eq_false_iff_ne]; rintro rfl; exact absurd hcm.1 (by decide)
    unfold Lib.atoi
    simp only [n1, n2, Bool.false_eq_true, if_false, Lib.decNat, List.isEmpty_cons, hd]
    rfl
  · intro h
    rw [hc] at h
    have h2 : c = 45 := (List.cons.inj h).1
    rw [h2] at hcm
    exact absurd hcm.1 (by decide)
  · rintro ⟨h1, h2⟩
    rw [hc] at h1 h2
    have hr : r ≠ [] := by rintro rfl; simp at h1
    exact hc1 (hc2 hr) h2
theorem it_mem {n : Int} (h0 : 0 ≤ n) {b : UInt8} (h : b ∈ toL (itB n)) : 48 ≤ b.toNat ∧ b.toNat ≤ 57 := by
  unfold itB toL at h
  rw [ofL_list] at h
  unfold Lib.itoa at h
  rw [if_neg (by omega)] at h
  exact dec_mem _ _ (Nat.le_refl _) b h
end

section
open Go.RowKit

/-! ### Names and texts -/
theorem name_no {s : ByteArray} (h : nameB s = true) {c : UInt8} (hc : okB c.toNat = false) : c ∉ toL s := by
  unfold nameB at h
  simp only [Bool.and_eq_true] at h
  intro hm
  have := List.all_eq_true.1 h.2 c hm
  rw [this] at hc; cases hc
theorem text_no {s : ByteArray} (h : textB s = true) {c : UInt8} (hc : c.toNat < 32) : c ∉ toL s := by
  unfold textB at h
  simp only [Bool.and_eq_true] at h
  intro hm
  have := List.all_eq_true.1 h.2 c hm
  simp only [decide_eq_true_eq] at this
  omega
theorem it_no {n : Int} (h0 : 0 ≤ n) {c : UInt8} (hc : c.toNat < 48 ∨ 57 < c.toNat) : c ∉ toL (itB n) := fun h => by
  have := it_mem h0 h; omega
theorem st_no (o : Bool) {c : UInt8} (hc : c.toNat < 97) : c ∉ toL (stB o) := by
  have h : ∀ x ∈ toL (stB o), 97 ≤ x.toNat := by cases o <;> decide
  intro hm
  have := h c hm
  omega
theorem name_ne {s : ByteArray} (h : nameB s = true) : s ≠ ⟨#[]⟩ := by
  rintro rfl
  have := (name_sz h).1
  have e : (⟨#[]⟩ : ByteArray).size = 0 := rfl
  omega

/-! ### Lines -/
def noteHd (k : Nat) (x : Nt) : List UInt8 := toL wNote ++ 32 :: (toL (itB ((k : Int) + 1)) ++ 32 :: (toL x.shot ++ 32 :: (toL (itB x.frame) ++ 32 :: (toL x.author ++ 32 :: toL (stB x.opn)))))
def noteL (k : Nat) (x : Nt) : List UInt8 := noteHd k x ++ 58 :: 32 :: toL x.text
def replyHd (y : Rp) : List UInt8 := toL wReply ++ 32 :: toL y.author
def replyL (y : Rp) : List UInt8 := replyHd y ++ 58 :: 32 :: toL y.text
def apprL (s a : ByteArray) : List UInt8 := [97, 112, 112, 114, 111, 118, 101, 100] ++ 32 :: (toL s ++ 32 :: toL a)
theorem toL_app (a b : ByteArray) : toL (a ++ b) = toL a ++ toL b := by
  unfold toL; rw [ByteArray.data_append, Array.toList_append]
theorem toL_lit (a : Array UInt8) : toL ⟨a⟩ = a.toList := rfl
theorem noteB_L (k : Nat) (x : Nt) : toL (noteB k x) = noteL k x ++ [10] := by
  unfold noteB noteL noteHd wNote
  simp only [toL_app, toL_lit, List.append_assoc, List.cons_append, List.nil_append]
theorem replyB_L (y : Rp) : toL (replyB y) = replyL y ++ [10] := by
  unfold replyB replyL replyHd wReply
  simp only [toL_app, toL_lit, List.append_assoc, List.cons_append, List.nil_append]
theorem apprB_L (s a : ByteArray) : toL (apprB (s, a)) = apprL s a ++ [10] := by
  unfold apprB apprL
  simp only [toL_app, toL_lit, List.append_assoc, List.cons_append, List.nil_append]
theorem noteHd_no {k : Nat} {x : Nt} {c : Int} (h : WfN x c) {b : UInt8} (h1 : okB b.toNat = false) (h2 : b ≠ 32) : b ∉ noteHd k x := by
  have n1 := name_no h.shot h1
  have n2 := name_no h.author h1
  have hd : b.toNat < 48 ∨ 57 < b.toNat := by
    unfold okB at h1
    simp only [Bool.or_eq_false_iff, Bool.and_eq_false_iff, decide_eq_false_iff_not] at h1
    omega
  have n3 := it_no (n := (k : Int) + 1) (by omega) hd
  have n4 := it_no (n := x.frame) h.frame.1 hd
  have n5 : b ∉ toL (stB x.opn) := by
    intro hm
    have hh : ∀ x' ∈ toL (stB x.opn), okB x'.toNat = true := by cases x.opn <;> decide
    rw [hh b hm] at h1; cases h1
  have n6 : b ∉ toL wNote := by
    intro hm
    have hh : ∀ x' ∈ toL wNote, okB x'.toNat = true := by decide
    rw [hh b hm] at h1; cases h1
  unfold noteHd
  simp only [List.mem_append, List.mem_cons, not_or]
  exact ⟨n6, h2, n3, h2, n1, h2, n4, h2, n2, h2, n5⟩
theorem noteHd_spl {k : Nat} {x : Nt} {c : Int} (h : WfN x c) : spl spB (ofL (noteHd k x)) = [wNote, itB ((k : Int) + 1), x.shot, itB x.frame, x.author, stB x.opn] := by
  have n1 : (32 : UInt8) ∉ toL x.shot := name_no h.shot (by decide)
  have n2 : (32 : UInt8) ∉ toL x.author := name_no h.author (by decide)
  have n3 : (32 : UInt8) ∉ toL (itB ((k : Int) + 1)) := it_no (by omega) (by decide)
  have n4 : (32 : UInt8) ∉ toL (itB x.frame) := it_no h.frame.1 (by decide)
  have n5 : (32 : UInt8) ∉ toL (stB x.opn) := st_no _ (by decide)
  have n6 : (32 : UInt8) ∉ toL wNote := by decide
  unfold noteHd spB
  rw [spl_one n6, spl_one n3, spl_one n1, spl_one n4, spl_one n2, spl_end n5]
  simp only [← ofL_toL]
theorem replyHd_no {y : Rp} (h : nameB y.author = true) {b : UInt8} (h1 : okB b.toNat = false) (h2 : b ≠ 32) : b ∉ replyHd y := by
  have n1 := name_no h h1
  have n6 : b ∉ toL wReply := by
    intro hm
    have hh : ∀ x' ∈ toL wReply, okB x'.toNat = true := by decide
    rw [hh b hm] at h1; cases h1
  unfold replyHd
  simp only [List.mem_append, List.mem_cons, not_or]
  exact ⟨n6, h2, n1⟩
theorem replyHd_spl {y : Rp} (h : nameB y.author = true) : spl spB (ofL (replyHd y)) = [wReply, y.author] := by
  have n1 : (32 : UInt8) ∉ toL y.author := name_no h (by decide)
  have n6 : (32 : UInt8) ∉ toL wReply := by decide
  unfold replyHd spB
  rw [spl_one n6, spl_end n1]
  simp only [← ofL_toL]
theorem apprL_spl {s a : ByteArray} (h1 : nameB s = true) (h2 : nameB a = true) : spl spB (ofL (apprL s a)) = [⟨#[97, 112, 112, 114, 111, 118, 101, 100]⟩, s, a] := by
  have n1 : (32 : UInt8) ∉ toL s := name_no h1 (by decide)
  have n2 : (32 : UInt8) ∉ toL a := name_no h2 (by decide)
  unfold apprL spB
  rw [spl_one (by decide), spl_one n1, spl_end n2]
  simp only [← ofL_toL]
  rfl
theorem noteL_nl {k : Nat} {x : Nt} {c : Int} (h : WfN x c) : (10 : UInt8) ∉ noteL k x := by
  have n1 := noteHd_no (k := k) h (b := 10) (by decide) (by decide)
  have n2 : (10 : UInt8) ∉ toL x.text := text_no h.text.2 (by decide)
  unfold noteL
  simp only [List.mem_append, List.mem_cons, not_or]
  exact ⟨n1, by decide, by decide, n2⟩
theorem replyL_nl {y : Rp} (h : nameB y.author = true) (ht : textB y.text = true) : (10 : UInt8) ∉ replyL y := by
  have n1 := replyHd_no h (b := 10) (by decide) (by decide)
  have n2 : (10 : UInt8) ∉ toL y.text := text_no ht (by decide)
  unfold replyL
  simp only [List.mem_append, List.mem_cons, not_or]
  exact ⟨n1, by decide, by decide, n2⟩
theorem apprL_nl {s a : ByteArray} (h1 : nameB s = true) (h2 : nameB a = true) : (10 : UInt8) ∉ apprL s a := by
  have n1 : (10 : UInt8) ∉ toL s := name_no h1 (by decide)
  have n2 : (10 : UInt8) ∉ toL a := name_no h2 (by decide)
  unfold apprL
  simp only [List.mem_append, List.mem_cons, not_or]
  exact ⟨by decide, by decide, n1, by decide, n2⟩

/-! ### A line of a note, of a reply, of an approval -/
def strip (x : Nt) : Nt := { x with closer := ⟨#[]⟩, closed := 0 }
theorem set_snoc {α : Type} (L : List α) (x y : α) : (L ++ [x]).set L.length y = L ++ [y] := by
  rw [List.set_append_right _ _ (Nat.le_refl _), Nat.sub_self]; rfl
theorem noB_sz : (⟨#[]⟩ : ByteArray).size = 0 := rfl
theorem read_note {N : List Nt} {c c' : Int} {k : Nat} {x : Nt} (hk : N.length = k) (hk2 : k < 2000) (h : WfN x c') : lineO ⟨N, [], c⟩ false noB (ofL (noteL k x)) = some (⟨#[]⟩, ⟨N ++ [{ strip x with reps := [] }], [], c⟩) := by
  have hp : Lib.hasPrefix (ofL (noteL k x)).data.toList apprPre.data.toList = false := by
    rw [ofL_list]; rfl
  have hc : Lib.cut (ofL (noteL k x)).data.toList colB.data.toList = (noteHd k x, toL x.text, true) := by
    rw [ofL_list]
    exact cut_col (noteHd_no h (by decide) (by decide))
  unfold lineO
  rw [if_neg (by rw [hp]; simp), hc]
  simp only
  rw [if_neg (by simp)]
  have e1 : (⟨(noteHd k x).toArray⟩ : ByteArray) = ofL (noteHd k x) := rfl
  have e2 : (⟨(toL x.text).toArray⟩ : ByteArray) = x.text := (ofL_toL _).symm
  rw [e1, e2, noteHd_spl h]
  unfold headO
  simp only
  rw [if_pos trivial]
  unfold noteO
  rw [numI_it (n := (k : Int) + 1) (by omega) (by omega), numI_it h.frame.1 h.frame.2]
  simp only
  have ho : (decide (stB x.opn = wOpen)) = x.opn := by cases x.opn <;> decide
  have hw : ¬ ((k : Int) + 1 ≠ (N.length : Int) + 1 ∨ (stB x.opn ≠ wOpen ∧ stB x.opn ≠ wClosed)) := by
    rw [hk]
    rintro (h1 | ⟨h1, h2⟩)
    · exact h1 rfl
    · cases hx : x.opn
      · rw [hx] at h2; exact h2 rfl
      · rw [hx] at h1; exact h1 rfl
  have ha : addE ⟨N, [], c⟩ x.shot x.frame x.author x.text = 0 := by
    unfold addE
    rw [if_neg (by rw [h.shot, h.author]; simp), if_neg (by have := h.frame; omega), if_neg (by rintro (e | e); exact h.text.1 e; rw [h.text.2] at e; cases e), if_neg (by show ¬ 2000 ≤ N.length; omega)]
  rw [if_neg hw, if_neg (by rw [ha]; simp), ho]
  simp only [Option.map_some]
  unfold addS opnS
  simp only [set_snoc]
  have en : nAt (N ++ [⟨x.shot, x.frame, x.author, x.text, true, [], ⟨#[]⟩, 0⟩]) N.length = ⟨x.shot, x.frame, x.author, x.text, true, [], ⟨#[]⟩, 0⟩ := by
    rw [nAt_snoc, if_neg (by omega), if_pos rfl]
  rw [en]
  rfl
theorem read_reply {N : List Nt} {c : Int} {x : Nt} {y : Rp} (hx : x.reps.length < 100) (h : nameB y.author = true ∧ y.text.size ≠ 0 ∧ textB y.text = true) : lineO ⟨N ++ [x], [], c⟩ false noB (ofL (replyL y)) = some (⟨#[]⟩, ⟨N ++ [{ x with reps := x.reps ++ [y] }], [], c⟩) := by
  have hp : Lib.hasPrefix (ofL (replyL y)).data.toList apprPre.data.toList = false := by
    rw [ofL_list]; rfl
  have hc : Lib.cut (ofL (replyL y)).data.toList colB.data.toList = (replyHd y, toL y.text, true) := by
    rw [ofL_list]
    exact cut_col (replyHd_no h.1 (by decide) (by decide))
  unfold lineO
  rw [if_neg (by rw [hp]; simp), hc]
  simp only
  rw [if_neg (by simp)]
  have e1 : (⟨(replyHd y).toArray⟩ : ByteArray) = ofL (replyHd y) := rfl
  have e2 : (⟨(toL y.text).toArray⟩ : ByteArray) = y.text := (ofL_toL _).symm
  rw [e1, e2, replyHd_spl h.1]
  unfold headO
  simp only
  rw [if_pos trivial, replyO_eq (k := N.length) (by simp)]
  have en : nAt (N ++ [x]) N.length = x := by rw [nAt_snoc, if_neg (by omega), if_pos rfl]
  have eo : opnS ⟨N ++ [x], [], c⟩ N.length true = ⟨N ++ [{ x with opn := true }], [], c⟩ := by
    unfold opnS
    simp only [set_snoc]
    rw [en]
  rw [eo]
  have hi : ntI ((N.length : Int) + 1) = N.length := by unfold ntI; omega
  have ea : ntA ⟨N ++ [{ x with opn := true }], [], c⟩ ((N.length : Int) + 1) = { x with opn := true } := by
    unfold ntA
    rw [hi]
    show nAt (N ++ [_]) N.length = _
    rw [nAt_snoc, if_neg (by omega), if_pos rfl]
  have hn : ntE ⟨N ++ [{ x with opn := true }], [], c⟩ ((N.length : Int) + 1) y.author = 0 := by
    unfold ntE
    rw [if_neg (by simp only [List.length_append, List.length_singleton]; omega), if_neg (by rw [h.1]; simp)]
  have hr : replyE ⟨N ++ [{ x with opn := true }], [], c⟩ ((N.length : Int) + 1) y.author y.text = 0 := by
    unfold replyE
    rw [hn, ea]
    rw [if_neg (by simp), if_neg (by rintro (e | e); exact h.2.1 e; rw [h.2.2] at e; cases e), if_neg (by simp), if_neg (by show ¬ 100 ≤ x.reps.length; omega)]
  rw [if_neg (by rw [hr]; simp)]
  unfold replyS modN
  rw [ea, hi]
  unfold opnS
  simp only [set_snoc, Option.map_some]
  rw [en, nAt_snoc, if_neg (by omega), if_pos rfl]
theorem strip_last (shot : ByteArray) : ∀ (L : List Nt) (p : Int × ByteArray), 0 ≤ p.1 → lastC shot (L.map strip) p = p
  | [], _, _ => rfl
  | x :: L, p, h => by
    rw [List.map_cons, lastC, if_neg (by rintro ⟨_, h2⟩; have e : (strip x).closed = 0 := rfl; omega)]
    exact strip_last shot L p h
theorem strip_open (shot : ByteArray) (L : List Nt) : anyOpen shot (L.map strip) = anyOpen shot L := by
  unfold anyOpen
  rw [List.any_map]; rfl
theorem read_appr {L : List Nt} {A : List (ByteArray × ByteArray)} {c : Int} {s a last : ByteArray} {ap : Bool} (h1 : nameB s = true) (h2 : nameB a = true) (ho : anyOpen s L = false) (hl : ap = true → leS s last = false) : lineO ⟨L.map strip, A, c⟩ ap last (ofL (apprL s a)) = some (s, ⟨L.map strip, putA A s a, c⟩) := by
  have hp : Lib.hasPrefix (ofL (apprL s a)).data.toList apprPre.data.toList = true := by
    rw [ofL_list]
    unfold apprL apprPre Lib.hasPrefix
    simp [List.isPrefixOf]
  unfold lineO
  rw [if_pos hp, apprL_spl h1 h2]
  unfold apprO
  simp only
  have he : apprE ⟨L.map strip, A, c⟩ s a = 0 := by
    unfold apprE
    simp only
    rw [if_neg (by rw [h1, h2]; simp), if_neg (by rw [strip_open, ho]; simp), strip_last _ _ _ (by simp), if_neg (fun e => name_ne h2 e.symm)]
  rw [if_neg (by rw [he]; simp), if_neg (by rintro ⟨e1, e2⟩; rw [hl e1] at e2; cases e2)]
  rfl
end

section
open Go.RowKit

/-- Lines that are read one after the other. -/
def runP : Rv → Bool → ByteArray → List ByteArray → Option (Rv × Bool × ByteArray)
  | σ, ap, last, [] => some (σ, ap, last)
  | σ, ap, last, l :: r => match lineO σ ap last l with
    | none => none
    | some (sh, τ) => if sh.size = 0 then runP τ ap last r else runP τ true sh r
theorem run_cons (σ : Rv) (ap : Bool) (last l : ByteArray) (r : List ByteArray) : runP σ ap last (l :: r) = match lineO σ ap last l with
    | none => none
    | some (sh, τ) => if sh.size = 0 then runP τ ap last r else runP τ true sh r := by rw [runP]
theorem parse_run : ∀ (ls : List ByteArray) (σ : Rv) (ap : Bool) (last : ByteArray), parseP σ ap last (ls ++ [noB]) = (runP σ ap last ls).map (·.1)
  | [], σ, ap, last => by simp [parseP, runP]
  | l :: ls, σ, ap, last => by
    obtain ⟨m, r, hm⟩ : ∃ m r, ls ++ [noB] = m :: r := by
      cases ls with
      | nil => exact ⟨_, _, rfl⟩
      | cons a b => exact ⟨_, _, rfl⟩
    have ih := parse_run ls
    rw [hm] at ih
    rw [List.cons_append, hm]
    unfold parseP runP
    cases lineO σ ap last l with
    | none => rfl
    | some p =>
      obtain ⟨sh, τ⟩ := p
      simp only
      split
      · exact ih _ _ _
      · exact ih _ _ _
theorem run_app : ∀ (a b : List ByteArray) (σ : Rv) (ap : Bool) (last : ByteArray), runP σ ap last (a ++ b) = (runP σ ap last a).bind fun p => runP p.1 p.2.1 p.2.2 b
  | [], b, σ, ap, last => rfl
  | l :: a, b, σ, ap, last => by
    rw [List.cons_append, run_cons, run_cons]
    cases lineO σ ap last l with
    | none => rfl
    | some p =>
      obtain ⟨sh, τ⟩ := p
      simp only
      split
      · exact run_app a b _ _ _
      · exact run_app a b _ _ _

/-! ### The text is its lines -/
def ended (ls : List (List UInt8)) : List UInt8 := ls.flatMap fun l => l ++ [10]
theorem ended_app (a b : List (List UInt8)) : ended (a ++ b) = ended a ++ ended b := by unfold ended; rw [List.flatMap_append]
def noteLs (k : Nat) (x : Nt) : List (List UInt8) := noteL k x :: x.reps.map replyL
def linesN (L : List Nt) (k : Nat) : List (List UInt8) := (List.range k).flatMap fun i => noteLs i (nAt L i)
def linesA (A : List (ByteArray × ByteArray)) (k : Nat) : List (List UInt8) := (List.range k).map fun i => apprL (sAt (shotsL A) i) (apprOf A (sAt (shotsL A) i))
theorem linesN_succ (L : List Nt) (k : Nat) : linesN L (k + 1) = linesN L k ++ noteLs k (nAt L k) := by
  unfold linesN; rw [List.range_succ, List.flatMap_append]; simp
theorem linesA_succ (A : List (ByteArray × ByteArray)) (k : Nat) : linesA A (k + 1) = linesA A k ++ [apprL (sAt (shotsL A) k) (apprOf A (sAt (shotsL A) k))] := by
  unfold linesA; rw [List.range_succ, List.map_append]; simp
theorem rAt_all (l : List Rp) : l = (List.range l.length).map fun i => rAt l i := by
  apply List.ext_getElem
  · simp
  · intro i h1 h2
    simp [rAt, h1]
theorem reps_ended (l : List Rp) : repsT l l.length = ended (l.map replyL) := by
  unfold repsT ended
  conv => rhs; rw [rAt_all l]
  rw [List.map_map, List.flatMap_map]
  congr 1
  funext i
  exact replyB_L _
theorem noteT_ended (k : Nat) (x : Nt) : noteT k x = ended (noteLs k x) := by
  unfold noteT noteLs
  rw [reps_ended, noteB_L]
  rfl
theorem notesT_ended (L : List Nt) : ∀ k, notesT L k = ended (linesN L k)
  | 0 => rfl
  | k + 1 => by rw [notesT_succ, linesN_succ, ended_app, notesT_ended L k, noteT_ended]
theorem apprsT_ended (A : List (ByteArray × ByteArray)) : ∀ k, apprsT A k = ended (linesA A k)
  | 0 => rfl
  | k + 1 => by
    rw [apprsT_succ, linesA_succ, ended_app, apprsT_ended A k, apprB_L]
    simp [ended]
theorem spl_ended : ∀ (ls : List (List UInt8)), (∀ l ∈ ls, (10 : UInt8) ∉ l) → spl nlB (ofL (ended ls)) = ls.map ofL ++ [noB]
  | [], _ => spl_miss (by decide)
  | l :: r, h => by
    have e : ended (l :: r) = l ++ 10 :: ended r := by simp [ended]
    rw [e]
    unfold nlB
    rw [spl_one (h l (by simp))]
    have := spl_ended r fun x hx => h x (by simp [hx])
    unfold nlB at this
    rw [this]; rfl

/-! ### The notes -/
theorem take_snoc {L : List Nt} {k : Nat} (h : k < L.length) : L.take (k + 1) = L.take k ++ [nAt L k] := by
  have e : nAt L k = L[k] := by unfold nAt; rw [List.getD_eq_getElem?_getD, List.getElem?_eq_getElem h]; rfl
  rw [e]; exact (List.take_append_getElem h).symm
theorem read_reps {N : List Nt} {c : Int} : ∀ (ys : List Rp) (x : Nt), x.reps.length + ys.length ≤ 100 → (∀ y ∈ ys, nameB y.author = true ∧ y.text.size ≠ 0 ∧ textB y.text = true) →
    runP ⟨N ++ [x], [], c⟩ false noB ((ys.map replyL).map ofL) = some (⟨N ++ [{ x with reps := x.reps ++ ys }], [], c⟩, false, noB)
  | [], x, _, _ => by simp [runP]
  | y :: ys, x, h, hy => by
    rw [List.length_cons] at h
    have ih := read_reps (N := N) (c := c) ys { x with reps := x.reps ++ [y] } (by simp only [List.length_append, List.length_singleton]; omega) fun z hz => hy z (by simp [hz])
    rw [List.map_cons, List.map_cons, run_cons, read_reply (by omega) (hy y (by simp))]
    simp only
    rw [if_pos noB_sz, ih]
    simp only [List.append_assoc, List.singleton_append]
theorem read_notes {L : List Nt} {c : Int} (hL : L.length ≤ 2000) (hw : ∀ x ∈ L, WfN x c) : ∀ k, k ≤ L.length → runP newV false noB ((linesN L k).map ofL) = some (⟨(L.take k).map strip, [], 0⟩, false, noB)
  | 0, _ => rfl
  | k + 1, hk => by
    have hx := hw _ (nAt_mem (show k < L.length by omega))
    rw [linesN_succ, List.map_append, run_app, read_notes hL hw k (by omega)]
    simp only [Option.bind_some]
    unfold noteLs
    rw [List.map_cons, run_cons, read_note (k := k) (by rw [List.length_map, List.length_take]; omega) (by omega) hx]
    simp only
    rw [if_pos noB_sz, read_reps _ _ (by simpa using hx.reps.1) hx.reps.2]
    rw [take_snoc (by omega), List.map_append]
    rfl

/-! ### The approvals -/
def apR (A : List (ByteArray × ByteArray)) : Nat → List (ByteArray × ByteArray)
  | 0 => []
  | j + 1 => putA (apR A j) (sAt (shotsL A) j) (apprOf A (sAt (shotsL A) j))
theorem shots_lt {A : List (ByteArray × ByteArray)} (hn : (A.map (·.1)).Nodup) {i j : Nat} (hij : i < j) (hj : j < A.length) : (sAt (shotsL A) i).data.toList < (sAt (shotsL A) j).data.toList := by
  have hl := shotsL_len A
  have h1 : (shotsL A).Pairwise fun a b => a.data.toList ≤ b.data.toList := srtS_le _
  have h2 : (shotsL A).Nodup := (srtS_perm _).nodup_iff.2 hn
  rw [List.pairwise_iff_getElem] at h1
  have h2' : (shotsL A).Pairwise (· ≠ ·) := h2
  rw [List.pairwise_iff_getElem] at h2'
  have e1 := h1 i j (by omega) (by omega) hij
  have e2 := h2' i j (by omega) (by omega) hij
  have g1 : sAt (shotsL A) i = (shotsL A)[i]'(by omega) := by simp [sAt, show i < (shotsL A).length by omega]
  have g2 : sAt (shotsL A) j = (shotsL A)[j]'(by omega) := by simp [sAt, show j < (shotsL A).length by omega]
  rw [g1, g2, ← List.not_le]
  intro h3
  exact e2 (bytes_inj.1 (List.le_antisymm e1 h3))
theorem leS_false {s last : ByteArray} (h : last.data.toList < s.data.toList) : leS s last = false := by
  unfold leS
  rw [bytesLess_eq, Lib.toList_data, Lib.toList_data, Bool.or_eq_false_iff]
  constructor
  · rw [decide_eq_false_iff_not]
    intro h2
    exact List.not_le.2 h2 (List.le_of_lt h)
  · rw [beq_eq_false_iff_ne]
    intro e
    rw [e] at h
    exact List.lt_irrefl _ h
theorem read_apprs {σ : Rv} (wf : Wf σ) (hn : (σ.appr.map (·.1)).Nodup) : ∀ j, j ≤ σ.appr.length → runP ⟨σ.notes.map strip, [], 0⟩ false noB ((linesA σ.appr j).map ofL) = some (⟨σ.notes.map strip, apR σ.appr j, 0⟩, decide (0 < j), if j = 0 then noB else sAt (shotsL σ.appr) (j - 1))
  | 0, _ => rfl
  | j + 1, hj => by
    have ha := appr_at wf (show j < σ.appr.length by omega)
    have ho : anyOpen (sAt (shotsL σ.appr) j) σ.notes = false := by
      have hm : sAt (shotsL σ.appr) j ∈ σ.appr.map (·.1) := by
        rw [← shotsL_mem]
        unfold sAt
        rw [List.getD_eq_getElem?_getD, List.getElem?_eq_getElem (by rw [shotsL_len]; omega)]
        exact List.getElem_mem _
      obtain ⟨p, hp, he⟩ := List.mem_map.1 hm
      rw [← he]
      exact (wf.appr p hp).2.2
    rw [linesA_succ, List.map_append, run_app, read_apprs wf hn j (by omega)]
    simp only [Option.bind_some, List.map_cons, List.map_nil]
    rw [run_cons, read_appr ha.1 ha.2 ho ?_]
    · simp only
      have := (name_sz ha.1).1
      rw [if_neg (by omega), if_neg (by omega), runP, Nat.add_sub_cancel, decide_eq_true (Nat.succ_pos j)]
      rfl
    · intro h
      have h := of_decide_eq_true h
      rw [if_neg (by omega)]
      exact leS_false (shots_lt hn (by omega) (by omega))
theorem apR_mem {A : List (ByteArray × ByteArray)} {p : ByteArray × ByteArray} : ∀ j, p ∈ apR A j → ∃ i, i < j ∧ p = (sAt (shotsL A) i, apprOf A (sAt (shotsL A) i))
  | 0, h => by simp [apR] at h
  | j + 1, h => by
    unfold apR putA at h
    rcases List.mem_cons.1 h with rfl | h
    · exact ⟨j, by omega, rfl⟩
    · obtain ⟨i, hi, e⟩ := apR_mem j (delA_mem.1 h).1
      exact ⟨i, by omega, e⟩
theorem apR_keys {A : List (ByteArray × ByteArray)} (hn : (A.map (·.1)).Nodup) : ∀ j, j ≤ A.length → (apR A j).map (·.1) = ((List.range j).map fun i => sAt (shotsL A) i).reverse
  | 0, _ => rfl
  | j + 1, hj => by
    have hd : delA (apR A j) (sAt (shotsL A) j) = apR A j := by
      unfold delA
      rw [List.filter_eq_self]
      intro p hp
      obtain ⟨i, hi, rfl⟩ := apR_mem j hp
      have := shots_lt hn hi (show j < A.length by omega)
      simp only [Bool.not_eq_true', decide_eq_false_iff_not]
      intro e
      rw [e] at this
      exact List.lt_irrefl _ this
    unfold apR putA
    rw [hd, List.map_cons, apR_keys hn j (by omega), List.range_succ, List.map_append, List.reverse_append]
    rfl
theorem sAt_all (S : List ByteArray) : S = (List.range S.length).map fun i => sAt S i := by
  apply List.ext_getElem
  · simp
  · intro i h1 h2
    simp [sAt, h1]
/-- What is read back. -/
def back (σ : Rv) : Rv := ⟨σ.notes.map strip, apR σ.appr σ.appr.length, 0⟩
theorem apR_shots {A : List (ByteArray × ByteArray)} (hn : (A.map (·.1)).Nodup) : shotsL (apR A A.length) = shotsL A ∧ (apR A A.length).length = A.length := by
  have hk := apR_keys hn A.length (Nat.le_refl _)
  have hs := sAt_all (shotsL A)
  rw [shotsL_len] at hs
  rw [← hs] at hk
  refine ⟨?_, ?_⟩
  · show srtS _ = srtS _
    rw [hk]
    refine srtS_eq ((List.reverse_perm _).trans ?_)
    exact srtS_perm _
  · have := congrArg List.length hk
    rw [List.length_map, List.length_reverse, shotsL_len] at this
    exact this
theorem apR_of {A : List (ByteArray × ByteArray)} (hn : (A.map (·.1)).Nodup) {s : ByteArray} (hs : s ∈ shotsL A) : apprOf (apR A A.length) s = apprOf A s := by
  have hk := apR_keys hn A.length (Nat.le_refl _)
  have hs2 := sAt_all (shotsL A)
  rw [shotsL_len] at hs2
  rw [← hs2] at hk
  have hm : s ∈ (apR A A.length).map (·.1) := by rw [hk]; exact List.mem_reverse.2 hs
  obtain ⟨p, hp, he⟩ := List.mem_map.1 hm
  unfold apprOf getA
  cases hf : (apR A A.length).find? fun q => decide (q.1 = s) with
  | none => exact absurd (List.find?_eq_none.1 hf p hp) (by simp [he])
  | some q =>
    have h1 : q.1 = s := by simpa using List.find?_some hf
    obtain ⟨i, _, rfl⟩ := apR_mem _ (List.mem_of_find?_eq_some hf)
    show apprOf A (sAt (shotsL A) i) = _
    rw [show sAt (shotsL A) i = s from h1]
    rfl
theorem strip_at {L : List Nt} {k : Nat} (h : k < L.length) : nAt (L.map strip) k = strip (nAt L k) := by
  unfold nAt
  rw [List.getD_eq_getElem?_getD, List.getD_eq_getElem?_getD, List.getElem?_map, List.getElem?_eq_getElem h]; rfl
theorem flat_cong {α β : Type} {l : List α} {f g : α → List β} (h : ∀ x ∈ l, f x = g x) : l.flatMap f = l.flatMap g := by
  rw [List.flatMap_def, List.flatMap_def, List.map_congr_left h]
theorem noteT_strip (k : Nat) (x : Nt) : noteT k (strip x) = noteT k x := by
  simp only [noteT, noteB, strip]
theorem strip_notes (L : List Nt) (k : Nat) (hk : k ≤ L.length) : notesT (L.map strip) k = notesT L k := by
  unfold notesT
  apply flat_cong
  intro i hi
  rw [List.mem_range] at hi
  rw [strip_at (by omega), noteT_strip]
theorem back_text {σ : Rv} (hn : (σ.appr.map (·.1)).Nodup) : textS (back σ) = textS σ := by
  obtain ⟨h1, h2⟩ := apR_shots hn
  unfold textS back
  simp only [List.length_map]
  rw [strip_notes _ _ (Nat.le_refl _), h2]
  congr 1
  unfold apprsT
  rw [h1]
  apply flat_cong
  intro i hi
  rw [List.mem_range] at hi
  rw [apR_of hn]
  unfold sAt
  rw [List.getD_eq_getElem?_getD, List.getElem?_eq_getElem (by rw [shotsL_len]; exact hi)]
  exact List.getElem_mem _
theorem linesN_nl {L : List Nt} {c : Int} (hw : ∀ x ∈ L, WfN x c) : ∀ k, k ≤ L.length → ∀ l ∈ linesN L k, (10 : UInt8) ∉ l
  | 0, _, l, h => by simp [linesN] at h
  | k + 1, hk, l, h => by
    rw [linesN_succ, List.mem_append] at h
    rcases h with h | h
    · exact linesN_nl hw k (by omega) l h
    · have hx := hw _ (nAt_mem (show k < L.length by omega))
      rcases List.mem_cons.1 h with rfl | h
      · exact noteL_nl hx
      · obtain ⟨y, hy, rfl⟩ := List.mem_map.1 h
        have := hx.reps.2 y hy
        exact replyL_nl this.1 this.2.2
theorem read_back {σ : Rv} (wf : Wf σ) (hn : (σ.appr.map (·.1)).Nodup) : parseP newV false noB (spl nlB (ofL (textS σ))) = some (back σ) := by
  have e : textS σ = ended (linesN σ.notes σ.notes.length ++ linesA σ.appr σ.appr.length) := by
    unfold textS
    rw [notesT_ended, apprsT_ended, ended_app]
  rw [e, spl_ended, parse_run, List.map_append, run_app, read_notes wf.len wf.notes _ (Nat.le_refl _)]
  · simp only [Option.bind_some]
    rw [List.take_length, read_apprs wf hn _ (Nat.le_refl _)]
    rfl
  · intro l hl
    rcases List.mem_append.1 hl with hl | hl
    · exact linesN_nl wf.notes _ (Nat.le_refl _) l hl
    · unfold linesA at hl
      obtain ⟨i, hi, rfl⟩ := List.mem_map.1 hl
      have := appr_at wf (List.mem_range.1 hi)
      exact apprL_nl this.1 this.2

/-! ### The notes that are shown -/
theorem notesQ_all (σ : Rv) : notesQ σ ⟨#[]⟩ false = numbered σ.notes := by
  unfold notesQ pick
  rw [List.filter_eq_self]
  intro p _
  simp [noB_sz]
theorem numbered_at {L : List Nt} {k : Nat} (h : k < L.length) : qAt (numbered L) k = (k + 1, nAt L k) := by
  unfold qAt numbered
  rw [List.getD_eq_getElem?_getD, List.getElem?_map, List.getElem?_range h]; rfl
theorem NtsV.back {w : World} {v : Value} {σ : Rv} (h : NtsV w v (notesQ (back σ) ⟨#[]⟩ false)) : NtsV w v (notesQ σ ⟨#[]⟩ false) := by
  rw [notesQ_all] at h ⊢
  have hl : (numbered (Proofs.YtilninaminaadaaGreatDoor.back σ).notes).length = (numbered σ.notes).length := by
    rw [numbered_len, numbered_len]; exact List.length_map ..
  obtain ⟨rv, h1, h2⟩ := h
  rw [hl] at h1 h2
  have hq : ∀ k, k < (numbered σ.notes).length → qAt (numbered (Proofs.YtilninaminaadaaGreatDoor.back σ).notes) k = (k + 1, strip (nAt σ.notes k)) ∧ qAt (numbered σ.notes) k = (k + 1, nAt σ.notes k) := by
    intro k hk
    rw [numbered_len] at hk
    refine ⟨?_, numbered_at hk⟩
    have : k < (Proofs.YtilninaminaadaaGreatDoor.back σ).notes.length := by show k < (σ.notes.map strip).length; rw [List.length_map]; exact hk
    rw [numbered_at this]
    congr 1
    exact strip_at hk
  refine ⟨rv, h1.congr fun k j hk hj => ?_, fun k hk => ?_⟩
  · unfold qcell
    rw [(hq k hk).1, (hq k hk).2]
    rcases (by omega : j = 0 ∨ j = 1 ∨ j = 2 ∨ j = 3 ∨ j = 4 ∨ j = 5 ∨ j = 6) with rfl | rfl | rfl | rfl | rfl | rfl | rfl <;> rfl
  · have := h2 k hk
    rw [(hq k hk).1] at this
    rw [(hq k hk).2]
    exact this
end

section
open Go.RowKit

theorem said_all (B : Nat) (Q : Nat → Prop) (pv pr : Nat) (σ : Rv) (s : SayT) (W : World) (h : PairH B Q W pv pr σ σ) (wf : Wf σ) (hss : s.shot.size ≤ 9223372036854775807) (hts : s.text.size ≤ 9223372036854775807) (hcnt : σ.count ≤ 1000000) (hap : σ.appr.length ≤ 1000000000) :
    Calls Tryz.prog 8 #[.pointer (some ⟨pv, 0, none⟩), .pointer (some ⟨pr, 0, none⟩), sayV s] W fun e w' => e = .returned (.bool true) ∧ PairH B Q w' pv pr (sayS σ s) (sayS σ s) ∧ Stay B Q W w' := by
  obtain ⟨k, n, f, ss, sa, st⟩ := s
  unfold sayS sayV
  dsimp only at hss hts ⊢
  by_cases k0 : k = 0
  · subst k0; rw [if_pos rfl]; exact said_Add B Q pv pr σ n f ss sa st hts W h wf
  rw [if_neg k0]
  by_cases k1 : k = 1
  · subst k1; rw [if_pos rfl]; exact said_Reply B Q pv pr σ n f ss sa st hts W h wf
  rw [if_neg k1]
  by_cases k2 : k = 2
  · subst k2; rw [if_pos rfl]; exact said_Close B Q pv pr σ n f ss sa st hts W h wf hcnt
  rw [if_neg k2]
  by_cases k3 : k = 3
  · subst k3; rw [if_pos rfl]; exact said_Open B Q pv pr σ n f ss sa st hts W h wf
  rw [if_neg k3]
  by_cases k4 : k = 4
  · subst k4; rw [if_pos rfl]; exact said_Approve B Q pv pr σ n f ss sa st hts W h wf hap
  rw [if_neg k4]
  exact said_Else B Q pv pr σ n f ss sa st hts W h wf hss k ⟨k0, k1, k2, k3, k4⟩

/-! ### How much there is -/
def rs : List Nt → Nat
  | [] => 0
  | x :: L => x.reps.length + rs L
theorem rs_app : ∀ (L M : List Nt), rs (L ++ M) = rs L + rs M
  | [], M => by simp [rs]
  | x :: L, M => by rw [List.cons_append, rs, rs, rs_app L M]; omega
theorem rs_set : ∀ (L : List Nt) (i d : Nat) (x : Nt), x.reps.length ≤ (L.getD i default).reps.length + d → rs (L.set i x) ≤ rs L + d
  | [], i, d, x, _ => by simp [rs]
  | y :: L, 0, d, x, h => by
    rw [List.set_cons_zero, rs, rs]
    have : ((y :: L).getD 0 default) = y := rfl
    rw [this] at h
    omega
  | y :: L, i + 1, d, x, h => by
    rw [List.set_cons_succ, rs, rs]
    have e : ((y :: L).getD (i + 1) default) = L.getD i default := by simp
    rw [e] at h
    have := rs_set L i d x h
    omega
def mu (σ : Rv) : Nat := σ.notes.length + rs σ.notes + σ.appr.length
theorem delA_len (A : List (ByteArray × ByteArray)) (k : ByteArray) : (delA A k).length ≤ A.length := List.length_filter_le _ _
theorem mu_say (σ : Rv) (s : SayT) : mu (sayS σ s) ≤ mu σ + 1 ∧ (sayS σ s).count ≤ σ.count + 1 := by
  unfold sayS
  split
  · unfold addN
    split
    · have := delA_len σ.appr s.shot
      refine ⟨?_, by show σ.count ≤ _; omega⟩
      unfold mu addS
      simp only [List.length_append, List.length_singleton, rs_app, rs, List.length_nil]
      omega
    · exact ⟨by omega, by omega⟩
  split
  · unfold replyN
    split
    · refine ⟨?_, by show σ.count ≤ _; omega⟩
      unfold mu replyS modN
      simp only [List.length_set]
      have := rs_set σ.notes (ntI s.note) 1 { ntA σ s.note with reps := (ntA σ s.note).reps ++ [⟨s.author, s.text⟩] } (by simp only [List.length_append, List.length_singleton]; exact Nat.le_refl _)
      dsimp only at this ⊢
      omega
    · exact ⟨by omega, by omega⟩
  split
  · unfold closeN
    split
    · refine ⟨?_, by show σ.count + 1 ≤ _; omega⟩
      unfold mu closeS modN
      simp only [List.length_set]
      have := rs_set σ.notes (ntI s.note) 0 { ntA σ s.note with opn := false, closer := s.author, closed := σ.count + 1 } (Nat.le_refl _)
      dsimp only at this ⊢
      omega
    · exact ⟨by omega, by omega⟩
  split
  · unfold openN
    split
    · refine ⟨?_, by show σ.count ≤ _; omega⟩
      have h1 := delA_len σ.appr (ntA σ s.note).shot
      unfold mu openS modN
      simp only [List.length_set]
      have := rs_set σ.notes (ntI s.note) 0 { ntA σ s.note with opn := true } (Nat.le_refl _)
      dsimp only at this ⊢
      omega
    · exact ⟨by omega, by omega⟩
  split
  · unfold apprN
    split
    · refine ⟨?_, by show σ.count ≤ _; omega⟩
      have := delA_len σ.appr s.shot
      unfold mu apprS putA
      simp only [List.length_cons]
      omega
    · exact ⟨by omega, by omega⟩
  exact ⟨by omega, by omega⟩
theorem noteT_len {k : Nat} {x : Nt} {c : Int} (hk : k ≤ 2000) (h : WfN x c) : (noteT k x).length ≤ 1200 + 1200 * x.reps.length := by
  have h2 := noteB_size hk h
  have h3 := repsT_len h _ (Nat.le_refl _)
  unfold noteT
  rw [List.length_append, toL_len]
  omega
theorem notesT_mu {σ : Rv} (wf : Wf σ) : ∀ k, k ≤ σ.notes.length → (notesT σ.notes k).length ≤ 1200 * (k + rs (σ.notes.take k))
  | 0, _ => by simp [notesT]
  | k + 1, h => by
    have h1 := notesT_mu wf k (by omega)
    have hl := wf.len
    have h2 := noteT_len (show k ≤ 2000 by omega) (wf.notes _ (nAt_mem (show k < σ.notes.length by omega)))
    rw [notesT_succ, List.length_append, take_snoc (by omega), rs_app, rs, rs]
    omega
theorem textS_mu {σ : Rv} (wf : Wf σ) : (textS σ).length ≤ 1200 * mu σ := by
  have h1 := notesT_mu wf _ (Nat.le_refl _)
  have h2 := apprsT_len wf _ (Nat.le_refl _)
  rw [List.take_length] at h1
  unfold textS mu
  rw [List.length_append]
  omega
theorem mu_appr (σ : Rv) : σ.appr.length ≤ mu σ := by unfold mu; omega

/-! ### The sayings that came in; the two reviews while it is said -/
instance : Inhabited SayT := ⟨⟨0, 0, 0, ⟨#[]⟩, ⟨#[]⟩, ⟨#[]⟩⟩⟩
/-- The cells of a saying. -/
def SayAt (w : World) (b i : Nat) (s : SayT) : Prop := w.cell? ⟨b, i, none⟩ = some (.int .i64 s.kind) ∧ w.cell? ⟨b, i + 1, none⟩ = some (.int .i64 s.note) ∧ w.cell? ⟨b, i + 2, none⟩ = some (.int .i64 s.frame) ∧
  w.cell? ⟨b, i + 3, none⟩ = some (.string s.shot) ∧ w.cell? ⟨b, i + 4, none⟩ = some (.string s.author) ∧ w.cell? ⟨b, i + 5, none⟩ = some (.string s.text)
theorem SayAt.keep {w w' : World} {B b i : Nat} {s : SayT} (h : SayAt w b i s) (hb : Below B w w') (hlt : b < B) : SayAt w' b i s := by
  obtain ⟨q0, q1, q2, q3, q4, q5⟩ := h
  exact ⟨by rw [hb.cell (p := ⟨b, _, none⟩) hlt]; exact q0, by rw [hb.cell (p := ⟨b, _, none⟩) hlt]; exact q1, by rw [hb.cell (p := ⟨b, _, none⟩) hlt]; exact q2, by rw [hb.cell (p := ⟨b, _, none⟩) hlt]; exact q3, by rw [hb.cell (p := ⟨b, _, none⟩) hlt]; exact q4, by rw [hb.cell (p := ⟨b, _, none⟩) hlt]; exact q5⟩
/-- v reads as the sayings L. -/
def SlY (w : World) (v : Value) (L : List SayT) : Prop := ∃ a c, v = .slice a L.length c ∧ L.length ≤ c ∧ c ≤ 9223372036854775807 ∧ (∀ s ∈ L, s.shot.size ≤ 9223372036854775807 ∧ s.text.size ≤ 9223372036854775807) ∧ (L = [] ∨ ∃ b o, a = some ⟨b, o, none⟩ ∧ b < w.heap.size ∧ ∀ k, k < L.length → SayAt w b (o + k * 6) (L.getD k default))
/-- What the two reviews are while it is said. -/
structure RmS (W : World) (pv pr k : Nat) (σ : Rv) (w : World) : Prop where
  pair : PairH W.heap.size (fun _ => False) w pv pr σ σ
  wf : Wf σ
  mu : mu σ ≤ k
  cnt : σ.count ≤ k
  b : Below W.heap.size W w
theorem rm_start {W w1 w2 : World} (V : VO w1 (W.heap.size + 1) newV (fun b => b = W.heap.size + 1 ∨ b = W.heap.size) (.slice none 0 0) W.heap.size (fun _ => .slice none 0 0)) (b1 : Below W.heap.size W w1)
    (R : RO w2 (w1.heap.size + 1) newV (fun b => b = w1.heap.size + 1 ∨ b = w1.heap.size) (.slice none 0 0) (.slice none 0 0) (.slice none 0 0) w1.heap.size (fun _ => .slice none 0 0)) (b2 : Below w1.heap.size w1 w2) : RmS W (W.heap.size + 1) (w1.heap.size + 1) 0 newV w2 := by
  have h1 := V.flt (W.heap.size + 1) (.inl rfl)
  refine ⟨⟨⟨_, _, _, _, _, _, _, _, _, _, V.keep b2, R, ?_, ?_, ?_⟩, fun b hb => hb.elim, (bcall b1 b2).size⟩, Wf.new, Nat.le_refl _, Int.le_refl _, bcall b1 b2⟩
  · rintro b (e | e) (e2 | e2) <;> omega
  · rintro b (e | e) <;> exact ⟨by omega, fun h => h⟩
  · rintro b (e | e) <;> exact ⟨by omega, fun h => h⟩
theorem RmS.say {W w w' : World} {pv pr k : Nat} {σ : Rv} {s : SayT} (h : RmS W pv pr k σ w) (hp : PairH W.heap.size (fun _ => False) w' pv pr (sayS σ s) (sayS σ s)) (hb : Below W.heap.size W w') : RmS W pv pr (k + 1) (sayS σ s) w' := by
  have := mu_say σ s
  have h1 := h.mu
  have h2 := h.cnt
  exact ⟨hp, h.wf.say s, by omega, by omega, hb⟩
theorem nodup_of {w : World} {p : Nat} {σ : Rv} {F : Nat → Prop} {vn : Value} {m : Nat} {rv : Nat → Value} (h : VO w p σ F vn m rv) : (σ.appr.map (·.1)).Nodup := h.map.1
end
end Go.Proofs.YtilninaminaadaaGreatDoor
