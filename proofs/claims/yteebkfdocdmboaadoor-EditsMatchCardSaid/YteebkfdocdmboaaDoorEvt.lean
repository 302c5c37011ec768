/- Edit lists: their errors, plain; dyeref1.end and dyeref1.EditsError. (printed by gen_evt.py) -/
import Derived.Test.YteebkfdocdmboaaDoorNam
import Derived.Test.YteebkfdocdmboaaDoorRat
namespace Go.Proofs.YteebkfdocdmboaaDoor
open Go.RowKit

structure Ev where
  reel : ByteArray
  kind : Int
  len : Int
  inn : Int
  out : Int
  pos : Int
instance : Inhabited Ev := ⟨⟨⟨#[]⟩, 0, 0, 0, 0, 0⟩⟩
def Ev.val (e : Ev) : Value := .agg #[.string e.reel, .int .i64 e.kind, .int .i64 e.len, .int .i64 e.inn, .int .i64 e.out, .int .i64 e.pos]
def Ev.stop (e : Ev) : Int := e.pos + e.out - e.inn
def evErr (nm : Bool) (kind len inn out pos bf : Int) (k : Nat) : Int :=
  if nm = false then 6 else if kind ≠ 1 ∧ kind ≠ 2 then 1 else if inn < 0 ∨ out ≤ inn ∨ 16777216 < out ∨ 16777216 < pos ∨ pos < 0 then 3
  else if pos < bf then 8 else if (kind = 1 ∧ len ≠ 0) ∨ (kind = 2 ∧ (len < 1 ∨ out - inn < len ∨ 250 < len ∨ k = 0 ∨ pos ≠ bf)) then 12 else 0
def befE (es : List Ev) (k : Nat) : Int := if k = 0 then 0 else (es.getD (k - 1) default).stop
def errAt (es : List Ev) (k : Nat) : Int := let e := es.getD k default; evErr (nameB e.reel) e.kind e.len e.inn e.out e.pos (befE es k) k
def evsTo (es : List Ev) : Nat → Int
  | 0 => 0
  | k + 1 => if evsTo es k ≠ 0 then evsTo es k else errAt es k
def editsErr (title : ByteArray) (rate : Int) (es : List Ev) : Int := if nameB title = false then 6 else if rateB rate = false then 1 else if 500 < es.length then 4 else evsTo es es.length
theorem evsTo_stay (es : List Ev) (k : Nat) (e : Int) (he : e ≠ 0) (h : evsTo es k = e) : ∀ m, k ≤ m → evsTo es m = e := by
  intro m hm
  induction m with
  | zero => rw [show 0 = k by omega]; exact h
  | succ m ih =>
    rcases Nat.lt_or_ge m k with hk | hk
    · rw [show m + 1 = k by omega]; exact h
    · rw [evsTo, ih hk, if_pos he]
theorem evsTo_zero (es : List Ev) (k : Nat) (h : evsTo es k = 0) : ∀ j, j < k → errAt es j = 0 := by
  induction k with
  | zero => intro j hj; omega
  | succ k ih =>
    intro j hj
    rw [evsTo] at h
    by_cases h0 : evsTo es k = 0
    · rw [if_neg (by simpa using h0)] at h
      rcases Nat.lt_or_eq_of_le (Nat.le_of_lt_succ hj) with h2 | rfl
      · exact ih h0 j h2
      · exact h
    · rw [if_pos h0] at h; exact absurd h h0
theorem evErr_zero {nm : Bool} {kind len inn out pos bf : Int} {k : Nat} (h : evErr nm kind len inn out pos bf k = 0) : nm = true ∧ (kind = 1 ∨ kind = 2) ∧ 0 ≤ inn ∧ inn < out ∧ out ≤ 16777216 ∧ 0 ≤ pos ∧ pos ≤ 16777216 ∧ bf ≤ pos := by
  unfold evErr at h
  split at h; · cases h
  split at h; · cases h
  split at h; · cases h
  split at h; · cases h
  refine ⟨by simpa using ‹¬nm = false›, by omega, by omega, by omega, by omega, by omega, by omega, by omega⟩

/-- The event e lies from cell i of block b on. -/
def EvAt (w : World) (b i : Nat) (e : Ev) : Prop :=
  w.cell? ⟨b, i, none⟩ = some (.string e.reel) ∧ w.cell? ⟨b, i + 1, none⟩ = some (.int .i64 e.kind) ∧ w.cell? ⟨b, i + 2, none⟩ = some (.int .i64 e.len) ∧
  w.cell? ⟨b, i + 3, none⟩ = some (.int .i64 e.inn) ∧ w.cell? ⟨b, i + 4, none⟩ = some (.int .i64 e.out) ∧ w.cell? ⟨b, i + 5, none⟩ = some (.int .i64 e.pos)
/-- v reads as the events es. -/
def SlE (w : World) (v : Value) (es : List Ev) : Prop := ∃ a c, v = .slice a es.length c ∧ es.length ≤ maxLen ∧ (es = [] ∨ ∃ b o, a = some ⟨b, o, none⟩ ∧ b < w.heap.size ∧ ∀ k, k < es.length → EvAt w b (o + k * 6) (es.getD k default))
theorem EvAt.keep {w w' : World} {B b i : Nat} {e : Ev} (h : EvAt w b i e) (hb : Below B w w') (hlt : b < B) : EvAt w' b i e := by
  obtain ⟨q0, q1, q2, q3, q4, q5⟩ := h
  exact ⟨by rw [hb.cell (p := ⟨b, _, none⟩) hlt]; exact q0, by rw [hb.cell (p := ⟨b, _, none⟩) hlt]; exact q1, by rw [hb.cell (p := ⟨b, _, none⟩) hlt]; exact q2, by rw [hb.cell (p := ⟨b, _, none⟩) hlt]; exact q3, by rw [hb.cell (p := ⟨b, _, none⟩) hlt]; exact q4, by rw [hb.cell (p := ⟨b, _, none⟩) hlt]; exact q5⟩
theorem SlE.keep {w w' : World} {v : Value} {es : List Ev} (h : SlE w v es) (hb : Below w.heap.size w w') : SlE w' v es := by
  obtain ⟨a, c, h1, h2, h3⟩ := h
  refine ⟨a, c, h1, h2, ?_⟩
  rcases h3 with h3 | ⟨b, o, h4, h5, h6⟩
  · exact .inl h3
  · refine .inr ⟨b, o, h4, Nat.lt_of_lt_of_le h5 hb.size, fun k hk => ?_⟩
    obtain ⟨q0, q1, q2, q3, q4, q5⟩ := h6 k hk
    exact ⟨by rw [hb.cell (p := ⟨b, _, none⟩) h5]; exact q0, by rw [hb.cell (p := ⟨b, _, none⟩) h5]; exact q1, by rw [hb.cell (p := ⟨b, _, none⟩) h5]; exact q2, by rw [hb.cell (p := ⟨b, _, none⟩) h5]; exact q3, by rw [hb.cell (p := ⟨b, _, none⟩) h5]; exact q4, by rw [hb.cell (p := ⟨b, _, none⟩) h5]; exact q5⟩

set_option maxRecDepth 100000 in
set_option maxHeartbeats 2000000 in
theorem ref_end (s : ByteArray) (k l i o p : Int) (W : World) (h1 : 0 ≤ i) (h2 : i < o) (h3 : o ≤ 16777216) (h4 : 0 ≤ p) (h5 : p ≤ 16777216) :
    Calls Tryd.prog 18 #[.agg #[.string s, .int .i64 k, .int .i64 l, .int .i64 i, .int .i64 o, .int .i64 p]] W fun e w' => e = .returned (.int .i64 (p + o - i)) ∧ Below W.heap.size W w' := by
  go_enter Tryd.func18, Tryd.ntmps18
  go_wp2_with fail
  go_ret
  exact ⟨rfl, bnew (Below.refl _ W)⟩

set_option maxRecDepth 100000 in
set_option maxHeartbeats 8000000 in
theorem ref_EditsError (title : ByteArray) (rate : Int) (v : Value) (es : List Ev) (W : World) (hs : SlE W v es) :
    Calls Tryd.prog 5 #[.agg #[.string title, .int .i64 rate, v]] W fun e w' => e = .returned (.int .i64 (editsErr title rate es)) ∧ Below W.heap.size W w' := by
  obtain ⟨a, c, rfl, hmax, hform⟩ := hs
  unfold maxLen at hmax
  obtain ⟨n, hn⟩ : ∃ n, n = es.length := ⟨_, rfl⟩
  rw [← hn] at hmax ⊢
  have Hn := Lib.hid hn
  generalize hres : editsErr title rate es = res
  have Hres := Lib.hid hres
  clear hres hn
  go_enter Tryd.func5, Tryd.ntmps5
  go_upto_region 1 with fail
  refine name_world ?_
  intro w0 hw0
  have x1 : Bx w0 W.heap.size 24 #[.string title, .int .i64 rate, .slice a n c] := by rw [hw0]; exact Bx.new _ _ _
  have B : Below W.heap.size W w0 := by rw [hw0]; exact bnew (Below.refl _ W)
  clear hw0
  obtain ⟨q1, f1, l1⟩ := x1.all
  go_wp2_with fail
  refine (ref_IsName _ _).mono ?_
  rintro e w1 ⟨rfl, hb1⟩
  replace x1 := x1.keep hb1
  replace B := bcall B hb1
  clear hb1 q1 f1 l1
  obtain ⟨q1, f1, l1⟩ := x1.all
  cases hnm : nameB title
  · have hr : res = 6 := by rw [← Hres.out, editsErr, if_pos hnm]
    have Hr := Lib.hid hr
    clear hr hnm
    go_wp2_with fail
    go_ret
    exact ⟨ret_int Hr.out.symm, B⟩
  go_wp2_with fail
  refine (ref_second _ _).mono ?_
  rintro e w2 ⟨rfl, rfl⟩
  by_cases hrt : rateB rate = false
  · have hr : res = 1 := by rw [← Hres.out, editsErr, if_neg (by rw [hnm]; simp), if_pos hrt]
    have Hr := Lib.hid hr
    have hz : secOf rate = 0 := by simpa [rateB] using hrt
    rw [hz]
    clear hr hnm hrt hz
    go_wp2_with fail
    go_ret
    exact ⟨ret_int Hr.out.symm, B⟩
  have hz : (secOf rate == 0) = false := by simpa [rateB] using hrt
  have hr : res = if 500 < n then 4 else evsTo es n := by rw [← Hres.out, editsErr, if_neg (by rw [hnm]; simp), if_neg hrt, ← Hn.out]
  clear hnm hrt
  by_cases h5 : 500 < n
  · rw [if_pos h5] at hr
    have Hr := Lib.hid hr
    clear hr
    have e5 : decide (500 < (n : Int)) = true := by simp; omega
    go_wp2_with fail
    go_ret
    exact ⟨ret_int Hr.out.symm, B⟩
  rw [if_neg h5] at hr
  have Hr := Lib.hid hr
  clear hr
  have e5 : decide (500 < (n : Int)) = false := by simp; omega
  go_upto_region 7 with fail
  go_wp2_with fail
  go_loopw [24] (fun i wr => ∃ k : Nat, k ≤ n ∧ i = .int .i64 (k : Int) ∧ Hid (evsTo es k = 0) ∧ Below W.heap.size W wr ∧ Bx wr W.heap.size 24 #[.string title, .int .i64 rate, .slice a n c]) (fun i _ => n - (intOf i).toNat)
  case atStart => exact ⟨0, by omega, rfl, Lib.hid rfl, B, x1⟩
  case round =>
    obtain ⟨k, hk, rfl, hz0, hb, x1⟩ := hrel
    clear q1 f1 l1
    by_cases hlt : k < n
    · rcases hform with h0 | ⟨b, o, rfl, hbl, hat⟩
      · exfalso
        have := Hn.out
        rw [h0] at this
        simp at this
        omega
      have hlen : ∀ m, m < n → m < es.length := fun m hm => by rw [← Hn.out]; exact hm
      have hzero := evsTo_zero es k hz0.out
      have hst : ∀ e, e ≠ 0 → errAt es k = e → res = e := fun e he h => by
        rw [Hr.out]
        exact evsTo_stay es (k + 1) e he (by rw [evsTo, if_neg (by rw [hz0.out]; simp)]; exact h) n hlt
      have hnx : errAt es k = 0 → Hid (evsTo es (k + 1) = 0) := fun h => Lib.hid (by rw [evsTo, if_neg (by rw [hz0.out]; simp)]; exact h)
      have Hst0 := Lib.hid hst
      have Hnx0 := Lib.hid hnx
      have Hzero := Lib.hid hzero
      obtain ⟨c0, c1, c2, c3, c4, c5⟩ := (hat k (hlen k hlt)).keep hb hbl
      have hev : errAt es k = evErr (nameB (es.getD k default).reel) (es.getD k default).kind (es.getD k default).len (es.getD k default).inn (es.getD k default).out (es.getD k default).pos (befE es k) k := rfl
      have Hat := Lib.hid hat
      have Hlen := Lib.hid hlen
      clear hst hnx hzero hat hlen
      generalize (es.getD k default).reel = reel at c0 hev
      generalize (es.getD k default).kind = kind at c1 hev
      generalize (es.getD k default).len = len at c2 hev
      generalize (es.getD k default).inn = inn at c3 hev
      generalize (es.getD k default).out = out at c4 hev
      generalize (es.getD k default).pos = pos at c5 hev
      have Hev0 := Lib.hid hev
      clear hev
      have hki : (k : Int) < (n : Int) := by omega
      go_upto_region 10 with fail
      refine name_world ?_
      intro w3 hw3
      have x4 : Bx w3 wr.heap.size 48 #[.string reel, .int .i64 kind, .int .i64 len, .int .i64 inn, .int .i64 out, .int .i64 pos] := by rw [hw3]; exact Bx.new _ _ _
      have hb9 : Below wr.heap.size wr w3 := by rw [hw3]; exact bnew (Below.refl _ wr)
      clear hw3 c0 c1 c2 c3 c4 c5
      replace x1 := x1.keep hb9
      replace hb := bcall hb hb9
      clear hb9
      obtain ⟨q1, f1, l1⟩ := x1.all
      obtain ⟨q4, f4, l4⟩ := x4.all
      by_cases hk0 : k = 0
      · subst hk0
        have hbf : befE es 0 = 0 := rfl
        rw [hbf] at Hev0
        go_wp2_with fail
        refine (ref_IsName _ _).mono ?_
        rintro e w5 ⟨rfl, hb5⟩
        replace x1 := x1.keep hb5
        replace x4 := x4.keep hb5
        replace hb := bcall hb hb5
        clear hb5 q1 f1 l1 q4 f4 l4
        obtain ⟨q1, f1, l1⟩ := x1.all
        obtain ⟨q4, f4, l4⟩ := x4.all
        generalize nameB reel = nm at Hev0 ⊢
        have Hst := Lib.hid (fun e he (h : evErr nm kind len inn out pos 0 0 = e) => Hst0.out e he (Hev0.out.trans h))
        have Hnext := Lib.hid (fun (h : evErr nm kind len inn out pos 0 0 = 0) => Hnx0.out (Hev0.out.trans h))
        clear Hst0 Hnx0 Hev0 Hzero Hat Hlen hz0
        cases nm
        · go_wp2_with fail
          go_ret
          exact ⟨ret_int (Hst.out 6 (by omega) (by rw [evErr, if_pos rfl])).symm, hb⟩
        by_cases k1 : kind = 1 ∨ kind = 2
        rotate_left
        · have d1 : (kind != 1) = true := by simp; omega
          have d2 : (kind != 2) = true := by simp; omega
          go_wp2_with fail
          go_ret
          exact ⟨ret_int (Hst.out 1 (by omega) (by rw [evErr]; rw [if_neg (by simp), if_pos (by omega)])).symm, hb⟩
        rcases k1 with hk | hk
        · subst hk
          by_cases r1 : inn < 0
          · have er1 : decide (inn < 0) = true := decide_eq_true r1
            go_wp2_with fail
            go_ret
            exact ⟨ret_int (Hst.out 3 (by omega) (by rw [evErr]; rw [if_neg (by simp), if_neg (by omega), if_pos (by omega)])).symm, hb⟩
          have er1 : decide (inn < 0) = false := decide_eq_false r1
          by_cases r2 : out ≤ inn
          · have er2 : decide (out ≤ inn) = true := decide_eq_true r2
            go_wp2_with fail
            go_ret
            exact ⟨ret_int (Hst.out 3 (by omega) (by rw [evErr]; rw [if_neg (by simp), if_neg (by omega), if_pos (by omega)])).symm, hb⟩
          have er2 : decide (out ≤ inn) = false := decide_eq_false r2
          by_cases r3 : 16777216 < out
          · have er3 : decide (16777216 < out) = true := decide_eq_true r3
            go_wp2_with fail
            go_ret
            exact ⟨ret_int (Hst.out 3 (by omega) (by rw [evErr]; rw [if_neg (by simp), if_neg (by omega), if_pos (by omega)])).symm, hb⟩
          have er3 : decide (16777216 < out) = false := decide_eq_false r3
          by_cases r4 : 16777216 < pos
          · have er4 : decide (16777216 < pos) = true := decide_eq_true r4
            go_wp2_with fail
            go_ret
            exact ⟨ret_int (Hst.out 3 (by omega) (by rw [evErr]; rw [if_neg (by simp), if_neg (by omega), if_pos (by omega)])).symm, hb⟩
          have er4 : decide (16777216 < pos) = false := decide_eq_false r4
          by_cases r5 : pos < 0
          · have er5 : decide (pos < 0) = true := decide_eq_true r5
            go_wp2_with fail
            go_ret
            exact ⟨ret_int (Hst.out 3 (by omega) (by rw [evErr]; rw [if_neg (by simp), if_neg (by omega), if_pos (by omega)])).symm, hb⟩
          have er5 : decide (pos < 0) = false := decide_eq_false r5
          by_cases s1 : len = 0
          · have es1 : (len != 0) = false := by simpa using s1
            go_wp2_with fail
            go_roundw
            case rel => exact ⟨0 + 1, by omega, by go_num, Hnext.out (by rw [evErr]; rw [if_neg (by simp), if_neg (by omega), if_neg (by omega), if_neg (by omega), if_neg (by omega)]), hb, x1⟩
            case measure => simp [intOf]; omega
          · have es1 : (len != 0) = true := by simpa using s1
            go_wp2_with fail
            go_ret
            exact ⟨ret_int (Hst.out 12 (by omega) (by rw [evErr]; rw [if_neg (by simp), if_neg (by omega), if_neg (by omega), if_neg (by omega), if_pos (by omega)])).symm, hb⟩
        · subst hk
          by_cases r1 : inn < 0
          · have er1 : decide (inn < 0) = true := decide_eq_true r1
            go_wp2_with fail
            go_ret
            exact ⟨ret_int (Hst.out 3 (by omega) (by rw [evErr]; rw [if_neg (by simp), if_neg (by omega), if_pos (by omega)])).symm, hb⟩
          have er1 : decide (inn < 0) = false := decide_eq_false r1
          by_cases r2 : out ≤ inn
          · have er2 : decide (out ≤ inn) = true := decide_eq_true r2
            go_wp2_with fail
            go_ret
            exact ⟨ret_int (Hst.out 3 (by omega) (by rw [evErr]; rw [if_neg (by simp), if_neg (by omega), if_pos (by omega)])).symm, hb⟩
          have er2 : decide (out ≤ inn) = false := decide_eq_false r2
          by_cases r3 : 16777216 < out
          · have er3 : decide (16777216 < out) = true := decide_eq_true r3
            go_wp2_with fail
            go_ret
            exact ⟨ret_int (Hst.out 3 (by omega) (by rw [evErr]; rw [if_neg (by simp), if_neg (by omega), if_pos (by omega)])).symm, hb⟩
          have er3 : decide (16777216 < out) = false := decide_eq_false r3
          by_cases r4 : 16777216 < pos
          · have er4 : decide (16777216 < pos) = true := decide_eq_true r4
            go_wp2_with fail
            go_ret
            exact ⟨ret_int (Hst.out 3 (by omega) (by rw [evErr]; rw [if_neg (by simp), if_neg (by omega), if_pos (by omega)])).symm, hb⟩
          have er4 : decide (16777216 < pos) = false := decide_eq_false r4
          by_cases r5 : pos < 0
          · have er5 : decide (pos < 0) = true := decide_eq_true r5
            go_wp2_with fail
            go_ret
            exact ⟨ret_int (Hst.out 3 (by omega) (by rw [evErr]; rw [if_neg (by simp), if_neg (by omega), if_pos (by omega)])).symm, hb⟩
          have er5 : decide (pos < 0) = false := decide_eq_false r5
          by_cases s1 : len < 1
          · have es1 : decide (len < 1) = true := decide_eq_true s1
            go_wp2_with fail
            go_ret
            exact ⟨ret_int (Hst.out 12 (by omega) (by rw [evErr]; rw [if_neg (by simp), if_neg (by omega), if_neg (by omega), if_neg (by omega), if_pos (by omega)])).symm, hb⟩
          have es1 : decide (len < 1) = false := decide_eq_false s1
          by_cases s2 : out - inn < len
          · have es2 : decide (out - inn < len) = true := decide_eq_true s2
            go_wp2_with fail
            go_ret
            exact ⟨ret_int (Hst.out 12 (by omega) (by rw [evErr]; rw [if_neg (by simp), if_neg (by omega), if_neg (by omega), if_neg (by omega), if_pos (by omega)])).symm, hb⟩
          have es2 : decide (out - inn < len) = false := decide_eq_false s2
          by_cases s3 : 250 < len
          · have es3 : decide (250 < len) = true := decide_eq_true s3
            go_wp2_with fail
            go_ret
            exact ⟨ret_int (Hst.out 12 (by omega) (by rw [evErr]; rw [if_neg (by simp), if_neg (by omega), if_neg (by omega), if_neg (by omega), if_pos (by omega)])).symm, hb⟩
          have es3 : decide (250 < len) = false := decide_eq_false s3
          go_wp2_with fail
          go_ret
          exact ⟨ret_int (Hst.out 12 (by omega) (by rw [evErr]; rw [if_neg (by simp), if_neg (by omega), if_neg (by omega), if_neg (by omega), if_pos (by omega)])).symm, hb⟩
      · have hgt0 : decide (0 < (k : Int)) = true := by simp; omega
        have hkz : ((k : Int) == 0) = false := by simp; omega
        obtain ⟨k1, hk1⟩ : ∃ k1, k1 = k - 1 := ⟨_, rfl⟩
        have hki1 : (k : Int) - 1 = (k1 : Int) := by omega
        have hkn1 : (k1 : Int) < (n : Int) := by omega
        have hpz := Hzero.out k1 (by omega)
        obtain ⟨-, -, b1, b2, b3, b4, b5, -⟩ := evErr_zero hpz
        obtain ⟨p0, p1, p2, p3, p4, p5⟩ := (Hat.out k1 (Hlen.out k1 (by omega))).keep hb hbl
        have hbf : befE es k = (es.getD k1 default).pos + (es.getD k1 default).out - (es.getD k1 default).inn := by rw [befE, if_neg hk0, ← hk1]; rfl
        rw [hbf] at Hev0
        generalize (es.getD k1 default).reel = reel' at p0
        generalize (es.getD k1 default).kind = kind' at p1
        generalize (es.getD k1 default).len = len' at p2
        generalize (es.getD k1 default).inn = inn' at p3 b1 b2 Hev0
        generalize (es.getD k1 default).out = out' at p4 b2 b3 Hev0
        generalize (es.getD k1 default).pos = pos' at p5 b4 b5 Hev0
        clear hbf hpz hk1
        go_wp2_with fail
        refine (ref_end reel' kind' len' inn' out' pos' _ b1 b2 b3 b4 b5).mono ?_
        rintro e w4 ⟨rfl, hb4⟩
        replace x1 := x1.keep hb4
        replace x4 := x4.keep hb4
        replace hb := bcall hb hb4
        clear hb4 q1 f1 l1 q4 f4 l4 p0 p1 p2 p3 p4 p5
        obtain ⟨q1, f1, l1⟩ := x1.all
        obtain ⟨q4, f4, l4⟩ := x4.all
        generalize pos' + out' - inn' = bf at Hev0 ⊢
        go_wp2_with fail
        refine (ref_IsName _ _).mono ?_
        rintro e w5 ⟨rfl, hb5⟩
        replace x1 := x1.keep hb5
        replace x4 := x4.keep hb5
        replace hb := bcall hb hb5
        clear hb5 q1 f1 l1 q4 f4 l4
        obtain ⟨q1, f1, l1⟩ := x1.all
        obtain ⟨q4, f4, l4⟩ := x4.all
        generalize nameB reel = nm at Hev0 ⊢
        have Hst := Lib.hid (fun e he (h : evErr nm kind len inn out pos bf k = e) => Hst0.out e he (Hev0.out.trans h))
        have Hnext := Lib.hid (fun (h : evErr nm kind len inn out pos bf k = 0) => Hnx0.out (Hev0.out.trans h))
        clear Hst0 Hnx0 Hev0 Hzero Hat Hlen hz0
        cases nm
        · go_wp2_with fail
          go_ret
          exact ⟨ret_int (Hst.out 6 (by omega) (by rw [evErr, if_pos rfl])).symm, hb⟩
        by_cases k1 : kind = 1 ∨ kind = 2
        rotate_left
        · have d1 : (kind != 1) = true := by simp; omega
          have d2 : (kind != 2) = true := by simp; omega
          go_wp2_with fail
          go_ret
          exact ⟨ret_int (Hst.out 1 (by omega) (by rw [evErr]; rw [if_neg (by simp), if_pos (by omega)])).symm, hb⟩
        rcases k1 with hk | hk
        · subst hk
          by_cases r1 : inn < 0
          · have er1 : decide (inn < 0) = true := decide_eq_true r1
            go_wp2_with fail
            go_ret
            exact ⟨ret_int (Hst.out 3 (by omega) (by rw [evErr]; rw [if_neg (by simp), if_neg (by omega), if_pos (by omega)])).symm, hb⟩
          have er1 : decide (inn < 0) = false := decide_eq_false r1
          by_cases r2 : out ≤ inn
          · have er2 : decide (out ≤ inn) = true := decide_eq_true r2
            go_wp2_with fail
            go_ret
            exact ⟨ret_int (Hst.out 3 (by omega) (by rw [evErr]; rw [if_neg (by simp), if_neg (by omega), if_pos (by omega)])).symm, hb⟩
          have er2 : decide (out ≤ inn) = false := decide_eq_false r2
          by_cases r3 : 16777216 < out
          · have er3 : decide (16777216 < out) = true := decide_eq_true r3
            go_wp2_with fail
            go_ret
            exact ⟨ret_int (Hst.out 3 (by omega) (by rw [evErr]; rw [if_neg (by simp), if_neg (by omega), if_pos (by omega)])).symm, hb⟩
          have er3 : decide (16777216 < out) = false := decide_eq_false r3
          by_cases r4 : 16777216 < pos
          · have er4 : decide (16777216 < pos) = true := decide_eq_true r4
            go_wp2_with fail
            go_ret
            exact ⟨ret_int (Hst.out 3 (by omega) (by rw [evErr]; rw [if_neg (by simp), if_neg (by omega), if_pos (by omega)])).symm, hb⟩
          have er4 : decide (16777216 < pos) = false := decide_eq_false r4
          by_cases r5 : pos < 0
          · have er5 : decide (pos < 0) = true := decide_eq_true r5
            go_wp2_with fail
            go_ret
            exact ⟨ret_int (Hst.out 3 (by omega) (by rw [evErr]; rw [if_neg (by simp), if_neg (by omega), if_pos (by omega)])).symm, hb⟩
          have er5 : decide (pos < 0) = false := decide_eq_false r5
          by_cases r6 : pos < bf
          · have er6 : decide (pos < bf) = true := decide_eq_true r6
            go_wp2_with fail
            go_ret
            exact ⟨ret_int (Hst.out 8 (by omega) (by rw [evErr]; rw [if_neg (by simp), if_neg (by omega), if_neg (by omega), if_pos (by omega)])).symm, hb⟩
          have er6 : decide (pos < bf) = false := decide_eq_false r6
          by_cases s1 : len = 0
          · have es1 : (len != 0) = false := by simpa using s1
            go_wp2_with fail
            go_roundw
            case rel => exact ⟨k + 1, by omega, by go_num, Hnext.out (by rw [evErr]; rw [if_neg (by simp), if_neg (by omega), if_neg (by omega), if_neg (by omega), if_neg (by omega)]), hb, x1⟩
            case measure => simp [intOf]; omega
          · have es1 : (len != 0) = true := by simpa using s1
            go_wp2_with fail
            go_ret
            exact ⟨ret_int (Hst.out 12 (by omega) (by rw [evErr]; rw [if_neg (by simp), if_neg (by omega), if_neg (by omega), if_neg (by omega), if_pos (by omega)])).symm, hb⟩
        · subst hk
          by_cases r1 : inn < 0
          · have er1 : decide (inn < 0) = true := decide_eq_true r1
            go_wp2_with fail
            go_ret
            exact ⟨ret_int (Hst.out 3 (by omega) (by rw [evErr]; rw [if_neg (by simp), if_neg (by omega), if_pos (by omega)])).symm, hb⟩
          have er1 : decide (inn < 0) = false := decide_eq_false r1
          by_cases r2 : out ≤ inn
          · have er2 : decide (out ≤ inn) = true := decide_eq_true r2
            go_wp2_with fail
            go_ret
            exact ⟨ret_int (Hst.out 3 (by omega) (by rw [evErr]; rw [if_neg (by simp), if_neg (by omega), if_pos (by omega)])).symm, hb⟩
          have er2 : decide (out ≤ inn) = false := decide_eq_false r2
          by_cases r3 : 16777216 < out
          · have er3 : decide (16777216 < out) = true := decide_eq_true r3
            go_wp2_with fail
            go_ret
            exact ⟨ret_int (Hst.out 3 (by omega) (by rw [evErr]; rw [if_neg (by simp), if_neg (by omega), if_pos (by omega)])).symm, hb⟩
          have er3 : decide (16777216 < out) = false := decide_eq_false r3
          by_cases r4 : 16777216 < pos
          · have er4 : decide (16777216 < pos) = true := decide_eq_true r4
            go_wp2_with fail
            go_ret
            exact ⟨ret_int (Hst.out 3 (by omega) (by rw [evErr]; rw [if_neg (by simp), if_neg (by omega), if_pos (by omega)])).symm, hb⟩
          have er4 : decide (16777216 < pos) = false := decide_eq_false r4
          by_cases r5 : pos < 0
          · have er5 : decide (pos < 0) = true := decide_eq_true r5
            go_wp2_with fail
            go_ret
            exact ⟨ret_int (Hst.out 3 (by omega) (by rw [evErr]; rw [if_neg (by simp), if_neg (by omega), if_pos (by omega)])).symm, hb⟩
          have er5 : decide (pos < 0) = false := decide_eq_false r5
          by_cases r6 : pos < bf
          · have er6 : decide (pos < bf) = true := decide_eq_true r6
            go_wp2_with fail
            go_ret
            exact ⟨ret_int (Hst.out 8 (by omega) (by rw [evErr]; rw [if_neg (by simp), if_neg (by omega), if_neg (by omega), if_pos (by omega)])).symm, hb⟩
          have er6 : decide (pos < bf) = false := decide_eq_false r6
          by_cases s1 : len < 1
          · have es1 : decide (len < 1) = true := decide_eq_true s1
            go_wp2_with fail
            go_ret
            exact ⟨ret_int (Hst.out 12 (by omega) (by rw [evErr]; rw [if_neg (by simp), if_neg (by omega), if_neg (by omega), if_neg (by omega), if_pos (by omega)])).symm, hb⟩
          have es1 : decide (len < 1) = false := decide_eq_false s1
          by_cases s2 : out - inn < len
          · have es2 : decide (out - inn < len) = true := decide_eq_true s2
            go_wp2_with fail
            go_ret
            exact ⟨ret_int (Hst.out 12 (by omega) (by rw [evErr]; rw [if_neg (by simp), if_neg (by omega), if_neg (by omega), if_neg (by omega), if_pos (by omega)])).symm, hb⟩
          have es2 : decide (out - inn < len) = false := decide_eq_false s2
          by_cases s3 : 250 < len
          · have es3 : decide (250 < len) = true := decide_eq_true s3
            go_wp2_with fail
            go_ret
            exact ⟨ret_int (Hst.out 12 (by omega) (by rw [evErr]; rw [if_neg (by simp), if_neg (by omega), if_neg (by omega), if_neg (by omega), if_pos (by omega)])).symm, hb⟩
          have es3 : decide (250 < len) = false := decide_eq_false s3
          by_cases s4 : pos = bf
          · have es4 : (pos != bf) = false := by simpa using s4
            go_wp2_with fail
            go_roundw
            case rel => exact ⟨k + 1, by omega, by go_num, Hnext.out (by rw [evErr]; rw [if_neg (by simp), if_neg (by omega), if_neg (by omega), if_neg (by omega), if_neg (by omega)]), hb, x1⟩
            case measure => simp [intOf]; omega
          · have es4 : (pos != bf) = true := by simpa using s4
            go_wp2_with fail
            go_ret
            exact ⟨ret_int (Hst.out 12 (by omega) (by rw [evErr]; rw [if_neg (by simp), if_neg (by omega), if_neg (by omega), if_neg (by omega), if_pos (by omega)])).symm, hb⟩
    · have hkn : k = n := by omega
      subst hkn
      have hres0 : res = 0 := by rw [Hr.out]; exact hz0.out
      have Hr0 := Lib.hid hres0
      clear hres0
      obtain ⟨q1, f1, l1⟩ := x1.all
      go_wp2_with fail
      go_ret
      exact ⟨ret_int Hr0.out.symm, hb⟩
end Go.Proofs.YteebkfdocdmboaaDoor
