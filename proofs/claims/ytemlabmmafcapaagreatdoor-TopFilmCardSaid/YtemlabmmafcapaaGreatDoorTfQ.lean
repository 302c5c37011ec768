/- The text of an edit list, plain: its lines and their words. No program in sight. -/
import Derived.Test.YtemlabmmafcapaaGreatDoorTfP
import Derived.Test.YtemlabmmafcapaaGreatDoorCdG
import Derived.Test.YtemlabmmafcapaaGreatDoorCdC
import Derived.Test.YtemlabmmafcapaaGreatDoorEvt
import Derived.Lib.AtoiAll
import Derived.Lib.ItoaNum
import Derived.Lib.CutLaws
import Derived.Lib.IndexLaws
namespace Go.Proofs.YtemlabmmafcapaaGreatDoor

theorem occ_head {s t : List UInt8} {c : UInt8} {j : Nat} (h : Lib.occAt s (c :: t) j = true) : s[j]? = some c := by
  unfold Lib.occAt at h
  cases hd : s.drop j with
  | nil => rw [hd] at h; simp at h
  | cons x r =>
    rw [hd] at h
    have h1 : c = x := by simp at h; exact h.1
    have h2 := congrArg (·[0]?) hd
    simp at h2
    rw [h2, h1]
theorem mem_at {a : List UInt8} {j : Nat} {c : UInt8} (h : a[j]? = some c) : c ∈ a := List.mem_of_getElem? h
theorem idx_one {a b : List UInt8} {c : UInt8} (h : c ∉ a) : Lib.index (a ++ [c] ++ b) [c] = a.length := by
  refine Lib.index_first (by simp) (by simp [Lib.occAt]) fun j hj => ?_
  rw [Bool.eq_false_iff]
  intro ho
  have := occ_head ho
  rw [List.append_assoc, List.getElem?_append_left hj] at this
  exact h (mem_at this)
/-- A number from 0 to 999 with three digits. -/
def pad3 (n : Nat) : List UInt8 := [UInt8.ofNat (48 + n / 100), UInt8.ofNat (48 + n / 10 % 10), UInt8.ofNat (48 + n % 10)]
theorem dec1 {n : Nat} (h : n < 10) : Lib.decDigits n = [UInt8.ofNat (48 + n)] := by rw [Lib.decDigits, dif_pos h]
theorem dec2 {n : Nat} (h0 : 10 ≤ n) (h : n < 100) : Lib.decDigits n = [UInt8.ofNat (48 + n / 10), UInt8.ofNat (48 + n % 10)] := by
  rw [Lib.decDigits, dif_neg (by omega), dec1 (by omega)]; rfl
theorem dec3 {n : Nat} (h0 : 100 ≤ n) (h : n < 1000) : Lib.decDigits n = pad3 n := by
  rw [Lib.decDigits, dif_neg (by omega), dec2 (by omega) (by omega), Nat.div_div_eq_div_mul]; rfl
theorem itoa_nat (n : Nat) : Lib.itoa (n : Int) = Lib.decDigits n := by
  unfold Lib.itoa
  rw [if_neg (by omega), Int.toNat_natCast]
theorem pad3_is {n : Nat} (h : n < 1000) : pad3 n = List.replicate (3 - (Lib.decDigits n).length) 48 ++ Lib.decDigits n := by
  rcases Nat.lt_or_ge n 10 with h1 | h1
  · rw [dec1 h1]
    unfold pad3
    rw [show n / 100 = 0 by omega, show n / 10 % 10 = 0 by omega, show n % 10 = n by omega]; rfl
  · rcases Nat.lt_or_ge n 100 with h2 | h2
    · rw [dec2 h1 h2]
      unfold pad3
      rw [show n / 100 = 0 by omega, show n / 10 % 10 = n / 10 by omega]; rfl
    · rw [dec3 h2 h]; rfl
def okI (r : Lib.NumEnd Int) (n : Int) : Bool := match r with | .ok v => decide (v = n) | _ => false
theorem okI_is {r : Lib.NumEnd Int} {n : Int} (h : okI r n = true) : r = .ok n := by
  cases r
  case ok v => simp only [okI, decide_eq_true_eq] at h; rw [h]
  all_goals cases h
theorem pad3_read : ∀ n, n < 1000 → okI (Lib.atoiAll (pad3 n)) (n : Int) = true := by decide +kernel
theorem pad3_digits : ∀ n, n < 1000 → ((pad3 n).all fun c => decide (48 ≤ c.toNat) && decide (c.toNat ≤ 57)) = true := by decide +kernel
def two2 (n : Nat) : List UInt8 := [UInt8.ofNat (48 + n / 10), UInt8.ofNat (48 + n % 10)]
theorem two2_read : ∀ n, n < 100 → 10 ≤ n → okI (Lib.atoiAll (two2 n)) (n : Int) = true := by decide +kernel
theorem two2_digits : ∀ n, n < 100 → ((two2 n).all fun c => decide (48 ≤ c.toNat) && decide (c.toNat ≤ 57)) = true := by decide +kernel

/-! ### The lines of the text of an edit list -/
def Vis (b : UInt8) : Prop := 33 ≤ b.toNat ∧ b.toNat < 127
def VW (w : List UInt8) : Prop := w ≠ [] ∧ ∀ b ∈ w, Vis b
/-- A blank or a tabulator. -/
def blankP (n : Nat) : Bool := decide (n = 32) || decide (n = 9)
theorem VW.wrd {w : List UInt8} (h : VW w) : Wrd blankP w := ⟨h.1, fun b hb => by
  obtain ⟨h1, h2⟩ := h.2 b hb
  refine ⟨by omega, ?_⟩
  unfold blankP
  rw [decide_eq_false (by omega), decide_eq_false (by omega)]
  rfl⟩
theorem join_nl : ∀ (ws : List (List UInt8)), (∀ w ∈ ws, VW w) → (10 : UInt8) ∉ joinW ws
  | [], _, h => by simp [joinW] at h
  | [w], hw, h => by
    have := (hw w (by simp)).2 10 h
    exact absurd this.1 (by decide)
  | w :: v :: r, hw, h => by
    rw [joinW, List.mem_append, List.mem_cons] at h
    rcases h with h | h | h
    · have := (hw w (by simp)).2 10 h
      exact absurd this.1 (by decide)
    · exact absurd h (by decide)
    · exact join_nl (v :: r) (fun x hx => hw x (by simp at hx ⊢; exact .inr hx)) h
theorem pad3_vw {n : Nat} (h : n < 1000) : VW (pad3 n) := ⟨by simp [pad3], fun b hb => by
  have h1 := List.all_eq_true.1 (pad3_digits n h) b hb
  simp only [Bool.and_eq_true, decide_eq_true_eq] at h1
  exact ⟨by omega, by omega⟩⟩
theorem two2_vw {n : Nat} (h : n < 100) : VW (two2 n) := ⟨by simp [two2], fun b hb => by
  have h1 := List.all_eq_true.1 (two2_digits n h) b hb
  simp only [Bool.and_eq_true, decide_eq_true_eq] at h1
  exact ⟨by omega, by omega⟩⟩
theorem cut_first {a b : List UInt8} (h : (10 : UInt8) ∉ a) : Lib.cut (a ++ 10 :: b) [10] = (a, b, true) := by
  have hi : Lib.index (a ++ 10 :: b) [10] = a.length := by
    rw [show a ++ 10 :: b = a ++ [10] ++ b by simp]
    exact idx_one h
  unfold Lib.cut
  rw [hi, if_pos (by omega), Int.toNat_natCast, List.take_left]
  have : (a ++ 10 :: b).drop (a.length + [(10 : UInt8)].length) = b := by
    rw [← List.drop_drop, List.drop_left]; rfl
  rw [this]

theorem name_vw {s : ByteArray} (h : nameB s = true) : VW s.data.toList := by
  unfold nameB at h
  simp only [Bool.and_eq_true, decide_eq_true_eq] at h
  obtain ⟨⟨h1, h2⟩, h3⟩ := h
  refine ⟨?_, fun b hb => ?_⟩
  · intro h0
    rw [Lib.size_eq, h0] at h1
    exact absurd h1 (by simp)
  · have h4 := List.all_eq_true.1 h3 b hb
    unfold okB at h4
    simp only [Bool.or_eq_true, Bool.and_eq_true, decide_eq_true_eq] at h4
    unfold Vis
    omega
theorem name_len {s : ByteArray} (h : nameB s = true) : 0 < s.data.toList.length ∧ s.data.toList.length ≤ 40 := by
  unfold nameB at h
  simp only [Bool.and_eq_true, decide_eq_true_eq] at h
  rw [← Lib.size_eq]
  exact h.1
/-- A code's text. -/
def codeT (r n : Int) : List UInt8 := (codeB r (codeOfH r n).toNat (codeOfM r n).toNat (codeOfS r n).toNat (codeOfF r n).toNat).data.toList
theorem code_nat {r n : Int} (hr : rateB r = true) : ∃ h m s f : Nat, codeOfH r n = (h : Int) ∧ codeOfM r n = (m : Int) ∧ codeOfS r n = (s : Int) ∧ codeOfF r n = (f : Int) ∧ h < 100 ∧ m < 100 ∧ s < 100 ∧ f < 100 ∧ codeE r (h : Int) (m : Int) (s : Int) (f : Int) = 0 := by
  obtain ⟨e, _⟩ := code_of_right (n := n) hr
  obtain ⟨_, h0, h1, m0, m1, s0, s1, f0, f1⟩ := code_right e
  have hc := (sec_cntd hr).2.2
  refine ⟨(codeOfH r n).toNat, (codeOfM r n).toNat, (codeOfS r n).toNat, (codeOfF r n).toNat, by omega, by omega, by omega, by omega, by omega, by omega, by omega, by omega, ?_⟩
  rw [show ((codeOfH r n).toNat : Int) = codeOfH r n by omega, show ((codeOfM r n).toNat : Int) = codeOfM r n by omega, show ((codeOfS r n).toNat : Int) = codeOfS r n by omega, show ((codeOfF r n).toNat : Int) = codeOfF r n by omega]
  exact e
theorem codeT_is {r n : Int} {h m s f : Nat} (h1 : codeOfH r n = (h : Int)) (h2 : codeOfM r n = (m : Int)) (h3 : codeOfS r n = (s : Int)) (h4 : codeOfF r n = (f : Int)) : ofL (codeT r n) = codeB r h m s f := by
  unfold codeT
  rw [h1, h2, h3, h4]
  simp only [Int.toNat_natCast]
  exact (ofL_of rfl).symm
theorem dig_vis {x : Nat} (h : x < 10) : Vis (UInt8.ofNat (48 + x)) := by
  unfold Vis
  rw [u8_nat (by omega)]
  omega
theorem codeT_vw {r n : Int} (hr : rateB r = true) : VW (codeT r n) ∧ (codeT r n).length = 11 := by
  obtain ⟨h, m, s, f, e1, e2, e3, e4, b1, b2, b3, b4, _⟩ := code_nat (n := n) hr
  unfold codeT
  rw [e1, e2, e3, e4]
  simp only [Int.toNat_natCast]
  rw [code_bytes]
  refine ⟨⟨by simp, fun b hb => ?_⟩, rfl⟩
  have hsep : Vis (UInt8.ofNat (sepN r)) := by
    unfold Vis
    rcases sepN_two r with h | h <;> rw [h] <;> decide
  have h58 : Vis 58 := ⟨by decide, by decide⟩
  simp only [List.mem_cons, List.not_mem_nil, or_false] at hb
  rcases hb with rfl | rfl | rfl | rfl | rfl | rfl | rfl | rfl | rfl | rfl | rfl
  all_goals first | exact h58 | exact hsep | exact dig_vis (by omega)
/-- A code's text, read. -/
theorem codeT_read {r n : Int} (hr : rateB r = true) (h0 : 0 ≤ n) (h1 : n < dayN r) : parseC r (ofL (codeT r n)) = (codeOfH r n, codeOfM r n, codeOfS r n, codeOfF r n, 0) ∧ framesN r (codeOfH r n) (codeOfM r n) (codeOfS r n) (codeOfF r n) = n ∧ codeE r (codeOfH r n) (codeOfM r n) (codeOfS r n) (codeOfF r n) = 0 := by
  obtain ⟨h, m, s, f, e1, e2, e3, e4, b1, b2, b3, b4, b5⟩ := code_nat (n := n) hr
  obtain ⟨a, b⟩ := code_of_right (n := n) hr
  rw [codeT_is e1 e2 e3 e4, parse_print b5, ← e1, ← e2, ← e3, ← e4]
  refine ⟨rfl, ?_, a⟩
  rw [b, Int.emod_eq_of_lt h0 h1]

def titW : List UInt8 := [84, 73, 84, 76, 69, 58]
def ratW : List UInt8 := [82, 65, 84, 69, 58]
def kindW (k : Int) : List UInt8 := if k = 2 then [68] else [67]
def evWs (r : Int) (e : Ev) (i : Nat) : List (List UInt8) := [pad3 (i + 1), e.reel.data.toList, kindW e.kind, pad3 e.len.toNat, codeT r e.inn, codeT r e.out, codeT r e.pos, codeT r (e.pos + (e.out - e.inn))]
def lineWs (t : ByteArray) (r : Int) (es : List Ev) : Nat → List (List UInt8)
  | 0 => [titW, t.data.toList]
  | 1 => [ratW, Lib.decDigits r.toNat]
  | k + 2 => evWs r (es.getD k default) k
def lineT (t : ByteArray) (r : Int) (es : List Ev) (j : Nat) : List UInt8 := joinW (lineWs t r es j) ++ [10]
/-- So many lines from line j on. -/
def textR (t : ByteArray) (r : Int) (es : List Ev) (j : Nat) : Nat → List UInt8
  | 0 => []
  | c + 1 => lineT t r es j ++ textR t r es (j + 1) c
theorem textR_snoc (t : ByteArray) (r : Int) (es : List Ev) : ∀ (c j : Nat), textR t r es j (c + 1) = textR t r es j c ++ lineT t r es (j + c)
  | 0, j => by simp [textR]
  | c + 1, j => by
    rw [textR, textR_snoc t r es c (j + 1), textR, List.append_assoc]
    congr 2
    rw [show j + 1 + c = j + (c + 1) by omega]
/-- The events fit on a day. -/
def Fit1 (r : Int) (e : Ev) : Prop := e.inn < dayN r ∧ e.out < dayN r ∧ e.pos < dayN r ∧ e.pos + (e.out - e.inn) < dayN r
def FitD (r : Int) (es : List Ev) : Prop := ∀ k, k < es.length → Fit1 r (es.getD k default)
theorem rate_dec {r : Int} (h : rateB r = true) : 24 ≤ r ∧ r ≤ 60 ∧ Lib.decDigits r.toNat = two2 r.toNat := by
  have h1 := rate_in h
  refine ⟨by omega, by omega, ?_⟩
  rw [dec2 (by omega) (by omega)]
  rfl
theorem ev_facts {es : List Ev} (hok : evsTo es es.length = 0) {k : Nat} (hk : k < es.length) : nameB (es.getD k default).reel = true ∧ ((es.getD k default).kind = 1 ∨ (es.getD k default).kind = 2) ∧ 0 ≤ (es.getD k default).len ∧ (es.getD k default).len ≤ 250 ∧ 0 ≤ (es.getD k default).inn ∧ (es.getD k default).inn < (es.getD k default).out ∧ (es.getD k default).out ≤ 16777216 ∧ 0 ≤ (es.getD k default).pos ∧ (es.getD k default).pos ≤ 16777216 := by
  have z := evsTo_zero es _ hok k hk
  have z2 := z
  obtain ⟨a, b, c, d, e, f, g, _⟩ := evErr_zero z
  refine ⟨a, b, ?_, ?_, c, d, e, f, g⟩
  all_goals
    unfold errAt evErr at z2
    simp only [] at z2
    split at z2; · cases z2
    split at z2; · cases z2
    split at z2; · cases z2
    split at z2; · cases z2
    split at z2; · cases z2
    rename_i h
    omega
theorem line_vw {t : ByteArray} {r : Int} {es : List Ev} (ht : nameB t = true) (hr : rateB r = true) (hl : es.length ≤ 500) (hok : evsTo es es.length = 0) : ∀ j, j < es.length + 2 → ∀ w ∈ lineWs t r es j, VW w
  | 0, _, w, hw => by
    simp only [lineWs, List.mem_cons, List.not_mem_nil, or_false] at hw
    rcases hw with rfl | rfl
    · exact ⟨by simp [titW], by unfold Vis titW; decide⟩
    · exact name_vw ht
  | 1, _, w, hw => by
    simp only [lineWs, List.mem_cons, List.not_mem_nil, or_false] at hw
    obtain ⟨r1, r2, r3⟩ := rate_dec hr
    rcases hw with rfl | rfl
    · exact ⟨by simp [ratW], by unfold Vis ratW; decide⟩
    · rw [r3]; exact two2_vw (by omega)
  | k + 2, hk, w, hw => by
    have hk : k < es.length := by omega
    obtain ⟨a1, a2, a3, a4, a5, a6, a7, a8, a9⟩ := ev_facts hok hk
    simp only [lineWs, evWs, List.mem_cons, List.not_mem_nil, or_false] at hw
    rcases hw with rfl | rfl | rfl | rfl | rfl | rfl | rfl | rfl
    · exact pad3_vw (by omega)
    · exact name_vw a1
    · unfold kindW
      split
      · exact ⟨by simp, by unfold Vis; decide⟩
      · exact ⟨by simp, by unfold Vis; decide⟩
    · exact pad3_vw (by omega)
    all_goals exact (codeT_vw hr).1
theorem line_len {t : ByteArray} {r : Int} {es : List Ev} (ht : nameB t = true) (hr : rateB r = true) (hok : evsTo es es.length = 0) : ∀ j, j < es.length + 2 → (lineT t r es j).length ≤ 100
  | 0, _ => by
    have h1 := name_len ht
    rw [← Lib.size_eq] at h1
    simp [lineT, lineWs, joinW, titW]; omega
  | 1, _ => by
    obtain ⟨r1, r2, r3⟩ := rate_dec hr
    simp [lineT, lineWs, joinW, ratW, r3, two2]
  | k + 2, hk => by
    have hk : k < es.length := by omega
    obtain ⟨a1, a2, a3, a4, a5, a6, a7, a8, a9⟩ := ev_facts hok hk
    have h1 := name_len a1
    have hc := fun n => (codeT_vw (n := n) hr).2
    have hkd : (kindW (es.getD k default).kind).length = 1 := by unfold kindW; split <;> rfl
    simp only [lineT, lineWs, evWs, joinW, List.length_append, List.length_cons, List.length_nil, hc, hkd, pad3]
    omega
theorem textR_len {t : ByteArray} {r : Int} {es : List Ev} (ht : nameB t = true) (hr : rateB r = true) (hok : evsTo es es.length = 0) : ∀ c j, j + c ≤ es.length + 2 → (textR t r es j c).length ≤ 100 * c
  | 0, _, _ => by simp [textR]
  | c + 1, j, h => by
    rw [textR, List.length_append]
    have h1 := line_len ht hr hok j (by omega)
    have h2 := textR_len ht hr hok c (j + 1) (by omega)
    omega
theorem textR_ne (t : ByteArray) (r : Int) (es : List Ev) (j c : Nat) : textR t r es j (c + 1) ≠ [] := by
  intro h
  have := congrArg List.length h
  simp [textR, lineT] at this
theorem line_cut {t : ByteArray} {r : Int} {es : List Ev} (ht : nameB t = true) (hr : rateB r = true) (hl : es.length ≤ 500) (hok : evsTo es es.length = 0) (j c : Nat) (hj : j < es.length + 2) : Lib.cut (textR t r es j (c + 1)) [10] = (joinW (lineWs t r es j), textR t r es (j + 1) c, true) := by
  rw [textR, lineT, List.append_assoc]
  exact cut_first (join_nl _ (line_vw ht hr hl hok j hj))
theorem line_fields {t : ByteArray} {r : Int} {es : List Ev} (ht : nameB t = true) (hr : rateB r = true) (hl : es.length ≤ 500) (hok : evsTo es es.length = 0) (j : Nat) (hj : j < es.length + 2) : Lib.goFieldsP blankP (ofL (joinW (lineWs t r es j))) = (lineWs t r es j).map ofL :=
  fields_join blankP (by decide) _ fun w hw => (line_vw ht hr hl hok j hj w hw).wrd
end Go.Proofs.YtemlabmmafcapaaGreatDoor
