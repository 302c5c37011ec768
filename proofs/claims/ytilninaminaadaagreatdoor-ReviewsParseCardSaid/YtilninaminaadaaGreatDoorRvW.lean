/- A review and its reference, side by side; dyelaw1.said. (printed by gen_rvw.py) -/
import Derived.Test.YtilninaminaadaaGreatDoorRvV
import Derived.Test.YtilninaminaadaaGreatDoorGrd
namespace Go.Proofs.YtilninaminaadaaGreatDoor
open Go.RowKit

/-- The program's review at pv is σ, the reference's at pr is τ; both lie from block B on, apart from each other and from the blocks Q. -/
structure PairH (B : Nat) (Q : Nat → Prop) (W : World) (pv pr : Nat) (σ τ : Rv) : Prop where
  ex : ∃ Fv vn m rv Fr vn' vb va m' rv', VO W pv σ Fv vn m rv ∧ RO W pr τ Fr vn' vb va m' rv' ∧ (∀ b, Fv b → ¬ Fr b) ∧ (∀ b, Fv b → B ≤ b ∧ ¬ Q b) ∧ (∀ b, Fr b → B ≤ b ∧ ¬ Q b)
  lt : ∀ b, Q b → b < W.heap.size
  base : B ≤ W.heap.size
theorem PairH.keep {B : Nat} {Q : Nat → Prop} {W w' : World} {pv pr : Nat} {σ τ : Rv} (h : PairH B Q W pv pr σ τ) (hb : Below W.heap.size W w') : PairH B Q w' pv pr σ τ := by
  obtain ⟨Fv, vn, m, rv, Fr, vn', vb, va, m', rv', h1, h2, h3, h4, h5⟩ := h.ex
  exact ⟨⟨Fv, vn, m, rv, Fr, vn', vb, va, m', rv', h1.keep hb, h2.keep hb, h3, h4, h5⟩, fun b hq => Nat.lt_of_lt_of_le (h.lt b hq) hb.size, Nat.le_trans h.base hb.size⟩
theorem PairH.more {B : Nat} {Q Q' : Nat → Prop} {W : World} {pv pr : Nat} {σ τ : Rv} (h : PairH B Q W pv pr σ τ) (hq : ∀ b, Q' b → Q b ∨ (b < W.heap.size ∧ ∀ Fv vn m rv Fr vn' vb va m' rv', VO W pv σ Fv vn m rv → RO W pr τ Fr vn' vb va m' rv' → ¬ Fv b ∧ ¬ Fr b)) : PairH B Q' W pv pr σ τ := by
  obtain ⟨Fv, vn, m, rv, Fr, vn', vb, va, m', rv', h1, h2, h3, h4, h5⟩ := h.ex
  refine ⟨⟨Fv, vn, m, rv, Fr, vn', vb, va, m', rv', h1, h2, h3, fun b hb => ⟨(h4 b hb).1, fun e => ?_⟩, fun b hb => ⟨(h5 b hb).1, fun e => ?_⟩⟩, fun b e => ?_, h.base⟩
  · rcases hq b e with e2 | ⟨_, e2⟩
    · exact (h4 b hb).2 e2
    · exact (e2 _ _ _ _ _ _ _ _ _ _ h1 h2).1 hb
  · rcases hq b e with e2 | ⟨_, e2⟩
    · exact (h5 b hb).2 e2
    · exact (e2 _ _ _ _ _ _ _ _ _ _ h1 h2).2 hb
  · rcases hq b e with e2 | ⟨e2, _⟩
    · exact h.lt b e2
    · exact e2
/-- A new block joins those that are kept apart. -/
theorem PairH.new {B : Nat} {Q : Nat → Prop} {W : World} {pv pr : Nat} {σ τ : Rv} (h : PairH B Q W pv pr σ τ) (ob : Obj) : PairH B (fun b => Q b ∨ b = W.heap.size) (W.alloc ob) pv pr σ τ := by
  have hb : Below W.heap.size W (W.alloc ob) := bnew (Below.refl _ _)
  obtain ⟨Fv, vn, m, rv, Fr, vn', vb, va, m', rv', h1, h2, h3, h4, h5⟩ := h.ex
  refine ⟨⟨Fv, vn, m, rv, Fr, vn', vb, va, m', rv', h1.keep hb, h2.keep hb, h3, fun b e => ⟨(h4 b e).1, ?_⟩, fun b e => ⟨(h5 b e).1, ?_⟩⟩, ?_, Nat.le_trans h.base hb.size⟩
  · rintro (e2 | rfl)
    · exact (h4 b e).2 e2
    · have := h1.flt _ e; omega
  · rintro (e2 | rfl)
    · exact (h5 b e).2 e2
    · have := h2.flt _ e; omega
  · rintro b (e | rfl)
    · have := h.lt b e; simp; omega
    · simp
theorem PairH.less {B : Nat} {Q Q' : Nat → Prop} {W : World} {pv pr : Nat} {σ τ : Rv} (h : PairH B Q W pv pr σ τ) (hq : ∀ b, Q' b → Q b) : PairH B Q' W pv pr σ τ := h.more fun b e => .inl (hq b e)
/-- What a step leaves of the rest. -/
def Stay (B : Nat) (Q : Nat → Prop) (W w' : World) : Prop := Below B W w' ∧ ∀ b, Q b → w'.heap[b]? = W.heap[b]?
theorem Stay.refl (B : Nat) (Q : Nat → Prop) (W : World) : Stay B Q W W := ⟨Below.refl _ _, fun _ _ => rfl⟩
theorem Stay.trans {B : Nat} {Q : Nat → Prop} {W w w' : World} (h : Stay B Q W w) (h' : Stay B Q w w') : Stay B Q W w' := ⟨h.1.trans h'.1, fun b e => (h'.2 b e).trans (h.2 b e)⟩
theorem Stay.call {B : Nat} {Q : Nat → Prop} {W w w' : World} (h : Stay B Q W w) (hb : Below w.heap.size w w') (hB : B ≤ w.heap.size) (hQ : ∀ b, Q b → b < w.heap.size) : Stay B Q W w' := ⟨h.1.trans (hb.mono hB), fun b e => (hb.block b (hQ b e)).trans (h.2 b e)⟩
theorem PairH.goV {B : Nat} {Q : Nat → Prop} {W : World} {pv pr : Nat} {σ τ σ' : Rv} {f : FuncId} {args : Array Value} {r : Value} (h : PairH B Q W pv pr σ τ) (hc : ∀ F vn m rv, VO W pv σ F vn m rv → Calls Tryz.prog f args W fun e w' => e = .returned r ∧ VGo W pv σ' F w') :
    Calls Tryz.prog f args W fun e w' => e = .returned r ∧ PairH B Q w' pv pr σ' τ ∧ Stay B Q W w' := by
  obtain ⟨Fv, vn, m, rv, Fr, vn', vb, va, m', rv', h1, h2, h3, h4, h5⟩ := h.ex
  refine (hc _ _ _ _ h1).mono fun e w' ⟨he, F', u1, u2, u3, g1, g2, g3⟩ => ⟨he, ⟨⟨F', u1, u2, u3, Fr, vn', vb, va, m', rv', g1, h2.lift g2.size fun b hb => g2.block b (h2.flt b hb) (fun e => h3 b e hb), fun b hb hb2 => ?_, fun b hb => ?_, h5⟩, fun b hq => Nat.lt_of_lt_of_le (h.lt b hq) g2.size, Nat.le_trans h.base g2.size⟩, g2.below (fun b hb => (h4 b hb).1) h.base, fun b hq => g2.block b (h.lt b hq) (fun e => (h4 b e).2 hq)⟩
  · rcases g3 b hb with e | e
    · exact h3 b e hb2
    · have := h2.flt b hb2; omega
  · rcases g3 b hb with e | e
    · exact h4 b e
    · exact ⟨Nat.le_trans h.base e, fun hq => by have := h.lt b hq; omega⟩
theorem PairH.goR {B : Nat} {Q : Nat → Prop} {W : World} {pv pr : Nat} {σ τ τ' : Rv} {f : FuncId} {args : Array Value} {r : Value} (h : PairH B Q W pv pr σ τ) (hc : ∀ F vn vb va m rv, RO W pr τ F vn vb va m rv → Calls Tryz.prog f args W fun e w' => e = .returned r ∧ RGo W pr τ' F w') :
    Calls Tryz.prog f args W fun e w' => e = .returned r ∧ PairH B Q w' pv pr σ τ' ∧ Stay B Q W w' := by
  obtain ⟨Fv, vn, m, rv, Fr, vn', vb, va, m', rv', h1, h2, h3, h4, h5⟩ := h.ex
  refine (hc _ _ _ _ _ _ h2).mono fun e w' ⟨he, F', u1, u2, u3, u4, u5, g1, g2, g3⟩ => ⟨he, ⟨⟨Fv, vn, m, rv, F', u1, u2, u3, u4, u5, h1.lift g2.size fun b hb => g2.block b (h1.flt b hb) (fun e => h3 b hb e), g1, fun b hb hb2 => ?_, h4, fun b hb => ?_⟩, fun b hq => Nat.lt_of_lt_of_le (h.lt b hq) g2.size, Nat.le_trans h.base g2.size⟩, g2.below (fun b hb => (h5 b hb).1) h.base, fun b hq => g2.block b (h.lt b hq) (fun e => (h5 b e).2 hq)⟩
  · rcases g3 b hb2 with e | e
    · exact h3 b hb e
    · have := h1.flt b hb; omega
  · rcases g3 b hb with e | e
    · exact h5 b e
    · exact ⟨Nat.le_trans h.base e, fun hq => by have := h.lt b hq; omega⟩
theorem Stay.bx {B : Nat} {Q : Nat → Prop} {W w' : World} (h : Stay B Q W w') {b : Nat} {T : TypeId} {cs : Array Value} (x : Bx W b T cs) (hq : Q b) : Bx w' b T cs := (h.2 b hq).trans x
theorem inv_call {P : Program} {o : Oper} {a : Act} {w : World} {Q : Exit → Act → World → Prop} {A : Nat → Value → Prop} {E : (Nat → Bool) → (Nat → Value) → World → Prop} {d : Nat → Bool} {vs : Nat → Value} {i : Nat} {f : FuncId} {args : Array Value}
    (hr : (execOp a.eval o).run P w = .ok (.enter f args) w) (hn : o.dst ≠ none) (hc : Calls P f args w fun e w' => ∃ v, e = .returned v ∧ A i v ∧ E (upd d i true) (upd vs i v) w') : o.wp P a w (InvPost A E d vs i o a) Q := by
  unfold Oper.wp
  rw [hr]
  refine hc.mono ?_
  rintro e w' ⟨v, rfl, h1, h2⟩
  exact ⟨v, rfl, fun h => absurd h hn, h1, h2⟩

structure SayT where
  kind : Int
  note : Int
  frame : Int
  shot : ByteArray
  author : ByteArray
  text : ByteArray
def sayS (σ : Rv) (s : SayT) : Rv := if s.kind = 0 then addN σ s.shot s.frame s.author s.text else if s.kind = 1 then replyN σ s.note s.author s.text else if s.kind = 2 then closeN σ s.note s.author else if s.kind = 3 then openN σ s.note s.author else if s.kind = 4 then apprN σ s.shot s.author else σ
theorem Wf.say {σ : Rv} (h : Wf σ) (s : SayT) : Wf (sayS σ s) := by
  unfold sayS
  split; · exact h.addN _ _ _ _
  split; · exact h.replyN _ _ _
  split; · exact h.closeN _ _
  split; · exact h.openN _ _
  split; · exact h.apprN _ _
  exact h
def sayV (s : SayT) : Value := .agg #[.int .i64 s.kind, .int .i64 s.note, .int .i64 s.frame, .string s.shot, .string s.author, .string s.text]

set_option maxRecDepth 100000 in
set_option maxHeartbeats 16000000 in
theorem said_Reply (B : Nat) (Q : Nat → Prop) (pv pr : Nat) (σ : Rv) (sn sf : Int) (ss sa st : ByteArray) (hts : st.size ≤ 9223372036854775807) (W : World) (h : PairH B Q W pv pr σ σ) (wf : Wf σ) :
    Calls Tryz.prog 8 #[.pointer (some ⟨pv, 0, none⟩), .pointer (some ⟨pr, 0, none⟩), .agg #[.int .i64 1, .int .i64 sn, .int .i64 sf, .string ss, .string sa, .string st]] W fun e w' => e = .returned (.bool true) ∧ PairH B Q w' pv pr (replyN σ sn sa st) (replyN σ sn sa st) ∧ Stay B Q W w' := by
  go_enter Tryz.func8, Tryz.ntmps8
  go_upto_region 1 with fail
  refine name_world ?_
  intro w0 hw0
  have x5 : Bx w0 W.heap.size 29 #[.int .i64 1, .int .i64 sn, .int .i64 sf, .string ss, .string sa, .string st] := by rw [hw0]; exact Bx.new _ _ _
  have H : PairH B (fun b => Q b ∨ b = W.heap.size) w0 pv pr σ σ := by rw [hw0]; exact h.new _
  have S0 : Stay B Q W w0 := by rw [hw0]; exact (Stay.refl _ _ _).call (bnew (Below.refl _ _)) h.base h.lt
  clear hw0 h
  generalize W.heap.size = p5 at *
  have HH := Lib.hid H
  have HS := Lib.hid S0
  clear H S0
  obtain ⟨q5, f5, l5⟩ := x5.all
  go_upto_region 7 with fail
  refine wp_region_inv 18 (fun q u => u = [.pointer (some ⟨pv, 0, none⟩), .pointer (some ⟨p5, 1, none⟩), .int .i64 sn, .pointer (some ⟨p5, 4, none⟩), .string sa, .pointer (some ⟨p5, 5, none⟩), .string st, .int .i64 (replyE σ sn sa st), .pointer (some ⟨pr, 0, none⟩), .pointer (some ⟨p5, 1, none⟩), .int .i64 sn, .pointer (some ⟨p5, 4, none⟩), .string sa, .pointer (some ⟨p5, 5, none⟩), .string st, .int .i64 (replyE σ sn sa st), .bool true, .bool true].getD q undef) (fun d vs w' => PairH B (fun b => Q b ∨ b = p5) w' pv pr (if d 7 then (replyN σ sn sa st) else σ) (if d 15 then (replyN σ sn sa st) else σ) ∧ Stay B (fun b => Q b ∨ b = p5) w0 w') (by kernel_rfl) (by kernel_rfl) ?_ ?_ ?_
  · intro vs
    exact ⟨HH.out.keep ((Below.refl _ _).drew), ⟨(Below.refl _ _).drew, fun _ _ => rfl⟩⟩
  · intro i o hi ho
    rcases (by omega : i = 0 ∨ i = 1 ∨ i = 2 ∨ i = 3 ∨ i = 4 ∨ i = 5 ∨ i = 6 ∨ i = 7 ∨ i = 8 ∨ i = 9 ∨ i = 10 ∨ i = 11 ∨ i = 12 ∨ i = 13 ∨ i = 14 ∨ i = 15 ∨ i = 16 ∨ i = 17) with rfl | rfl | rfl | rfl | rfl | rfl | rfl | rfl | rfl | rfl | rfl | rfl | rfl | rfl | rfl | rfl | rfl | rfl
    all_goals simp only [List.getElem?_cons_zero, List.getElem?_cons_succ, Option.some.injEq] at ho
    all_goals subst ho
    all_goals intro d a wx hE hag hdep hun
    · have e0 := slot_eq (hag 0 rfl)
      exact inv_val (v := .pointer (some ⟨pv, 0, none⟩)) (by simp [go_sem, e0]) (fun h => (by cases h)) rfl hE
    · have e0 := slot_eq (hag 5 rfl)
      exact inv_val (v := .pointer (some ⟨p5, 1, none⟩)) (by simp [go_sem, e0]) (fun h => (by cases h)) rfl hE
    · have e0 := slot_eq (hdep ⟨1, .data⟩ (by simp) rfl).1
      have hq := ((hE.2.bx x5 (.inr rfl)).all.1 1)
      simp only [List.getElem?_toArray, List.getElem?_cons_zero, List.getElem?_cons_succ] at hq
      exact inv_val (v := .int .i64 sn) (by simp [go_sem, e0, hq]) (fun h => (by cases h)) rfl hE
    · have e0 := slot_eq (hag 5 rfl)
      exact inv_val (v := .pointer (some ⟨p5, 4, none⟩)) (by simp [go_sem, e0]) (fun h => (by cases h)) rfl hE
    · have e0 := slot_eq (hdep ⟨3, .data⟩ (by simp) rfl).1
      have hq := ((hE.2.bx x5 (.inr rfl)).all.1 4)
      simp only [List.getElem?_toArray, List.getElem?_cons_zero, List.getElem?_cons_succ] at hq
      exact inv_val (v := .string sa) (by simp [go_sem, e0, hq]) (fun h => (by cases h)) rfl hE
    · have e0 := slot_eq (hag 5 rfl)
      exact inv_val (v := .pointer (some ⟨p5, 5, none⟩)) (by simp [go_sem, e0]) (fun h => (by cases h)) rfl hE
    · have e0 := slot_eq (hdep ⟨5, .data⟩ (by simp) rfl).1
      have hq := ((hE.2.bx x5 (.inr rfl)).all.1 5)
      simp only [List.getElem?_toArray, List.getElem?_cons_zero, List.getElem?_cons_succ] at hq
      exact inv_val (v := .string st) (by simp [go_sem, e0, hq]) (fun h => (by cases h)) rfl hE
    · have e0 := slot_eq (hdep ⟨0, .data⟩ (by simp) rfl).1
      have e1 := slot_eq (hdep ⟨2, .data⟩ (by simp) rfl).1
      have e2 := slot_eq (hdep ⟨4, .data⟩ (by simp) rfl).1
      have e3 := slot_eq (hdep ⟨6, .data⟩ (by simp) rfl).1
      refine inv_call (f := 19) (args := #[.pointer (some ⟨pv, 0, none⟩), .int .i64 sn, .string sa, .string st]) (run_go_call Tryz.func19 (by kernel_rfl) (by kernel_rfl) _ _ _ _ _ _ _ _ _ _ (by simp [Act.eval, e0, e1, e2, e3])) (fun h => (by cases h)) ?_
      obtain ⟨hP, hSt⟩ := hE
      have hun2 := hun
      simp only [hun, Bool.false_eq_true, if_false] at hP
      refine (hP.goV (r := .int .i64 (replyE σ sn sa st)) (σ' := (replyN σ sn sa st)) (fun F vn m rv hv => conform_Reply pv σ F vn m rv sn sa st wx hv wf)).mono ?_
      rintro e w' ⟨rfl, hP2, hS2⟩
      exact ⟨_, rfl, rfl, hP2, hSt.trans hS2⟩
    · have e0 := slot_eq (hag 1 rfl)
      exact inv_val (v := .pointer (some ⟨pr, 0, none⟩)) (by simp [go_sem, e0]) (fun h => (by cases h)) rfl hE
    · have e0 := slot_eq (hag 5 rfl)
      exact inv_val (v := .pointer (some ⟨p5, 1, none⟩)) (by simp [go_sem, e0]) (fun h => (by cases h)) rfl hE
    · have e0 := slot_eq (hdep ⟨9, .data⟩ (by simp) rfl).1
      have hq := ((hE.2.bx x5 (.inr rfl)).all.1 1)
      simp only [List.getElem?_toArray, List.getElem?_cons_zero, List.getElem?_cons_succ] at hq
      exact inv_val (v := .int .i64 sn) (by simp [go_sem, e0, hq]) (fun h => (by cases h)) rfl hE
    · have e0 := slot_eq (hag 5 rfl)
      exact inv_val (v := .pointer (some ⟨p5, 4, none⟩)) (by simp [go_sem, e0]) (fun h => (by cases h)) rfl hE
    · have e0 := slot_eq (hdep ⟨11, .data⟩ (by simp) rfl).1
      have hq := ((hE.2.bx x5 (.inr rfl)).all.1 4)
      simp only [List.getElem?_toArray, List.getElem?_cons_zero, List.getElem?_cons_succ] at hq
      exact inv_val (v := .string sa) (by simp [go_sem, e0, hq]) (fun h => (by cases h)) rfl hE
    · have e0 := slot_eq (hag 5 rfl)
      exact inv_val (v := .pointer (some ⟨p5, 5, none⟩)) (by simp [go_sem, e0]) (fun h => (by cases h)) rfl hE
    · have e0 := slot_eq (hdep ⟨13, .data⟩ (by simp) rfl).1
      have hq := ((hE.2.bx x5 (.inr rfl)).all.1 5)
      simp only [List.getElem?_toArray, List.getElem?_cons_zero, List.getElem?_cons_succ] at hq
      exact inv_val (v := .string st) (by simp [go_sem, e0, hq]) (fun h => (by cases h)) rfl hE
    · have e0 := slot_eq (hdep ⟨8, .data⟩ (by simp) rfl).1
      have e1 := slot_eq (hdep ⟨10, .data⟩ (by simp) rfl).1
      have e2 := slot_eq (hdep ⟨12, .data⟩ (by simp) rfl).1
      have e3 := slot_eq (hdep ⟨14, .data⟩ (by simp) rfl).1
      refine inv_call (f := 20) (args := #[.pointer (some ⟨pr, 0, none⟩), .int .i64 sn, .string sa, .string st]) (run_go_call Tryz.func20 (by kernel_rfl) (by kernel_rfl) _ _ _ _ _ _ _ _ _ _ (by simp [Act.eval, e0, e1, e2, e3])) (fun h => (by cases h)) ?_
      obtain ⟨hP, hSt⟩ := hE
      have hun2 := hun
      simp only [hun, Bool.false_eq_true, if_false] at hP
      refine (hP.goR (r := .int .i64 (replyE σ sn sa st)) (τ' := (replyN σ sn sa st)) (fun F vn vb va m rv hr => ref_Reply pr σ F vn vb va m rv sn sa st hts wx hr wf)).mono ?_
      rintro e w' ⟨rfl, hP2, hS2⟩
      exact ⟨_, rfl, rfl, hP2, hSt.trans hS2⟩
    · have e0 := slot_eq (hdep ⟨7, .data⟩ (by simp) rfl).1
      have e1 := slot_eq (hdep ⟨15, .data⟩ (by simp) rfl).1
      exact inv_val (v := .bool true) (by simp [go_sem, e0, e1]) (fun h => (by cases h)) rfl hE
    · have e0 := slot_eq (hdep ⟨16, .data⟩ (by simp) rfl).1
      exact inv_val (v := .bool true) (by simp [go_sem, e0]) (fun h => (by cases h)) rfl hE
  · intro d vs w6 hd hE hA
    obtain ⟨hP, hSt⟩ := hE
    rw [hd 7 (by omega), hd 15 (by omega), if_pos rfl] at hP
    have k0 : vs 0 = .pointer (some ⟨pv, 0, none⟩) := hA 0 (by omega)
    have k1 : vs 1 = .pointer (some ⟨p5, 1, none⟩) := hA 1 (by omega)
    have k2 : vs 2 = .int .i64 sn := hA 2 (by omega)
    have k3 : vs 3 = .pointer (some ⟨p5, 4, none⟩) := hA 3 (by omega)
    have k4 : vs 4 = .string sa := hA 4 (by omega)
    have k5 : vs 5 = .pointer (some ⟨p5, 5, none⟩) := hA 5 (by omega)
    have k6 : vs 6 = .string st := hA 6 (by omega)
    have k7 : vs 7 = .int .i64 (replyE σ sn sa st) := hA 7 (by omega)
    have k8 : vs 8 = .pointer (some ⟨pr, 0, none⟩) := hA 8 (by omega)
    have k9 : vs 9 = .pointer (some ⟨p5, 1, none⟩) := hA 9 (by omega)
    have k10 : vs 10 = .int .i64 sn := hA 10 (by omega)
    have k11 : vs 11 = .pointer (some ⟨p5, 4, none⟩) := hA 11 (by omega)
    have k12 : vs 12 = .string sa := hA 12 (by omega)
    have k13 : vs 13 = .pointer (some ⟨p5, 5, none⟩) := hA 13 (by omega)
    have k14 : vs 14 = .string st := hA 14 (by omega)
    have k15 : vs 15 = .int .i64 (replyE σ sn sa st) := hA 15 (by omega)
    have k16 : vs 16 = .bool true := hA 16 (by omega)
    have k17 : vs 17 = .bool true := hA 17 (by omega)
    simp only [putAll, dstAt, List.getElem?_toArray, List.getElem?_cons_zero, List.getElem?_cons_succ, Option.bind_some, Option.bind_eq_bind, Act.put, List.setIfInBounds_toArray, List.set_cons_zero, List.set_cons_succ, k0, k1, k2, k3, k4, k5, k6, k7, k8, k9, k10, k11, k12, k13, k14, k15, k16, k17]
    clear hA hd k0 k1 k2 k3 k4 k5 k6 k7 k8 k9 k10 k11 k12 k13 k14 k15 k16 k17 q5 f5 l5
    go_wp2_with fail
    go_ret
    exact ⟨rfl, hP.less (fun b e => .inl e), ⟨HS.out.1.trans hSt.1, fun b e => (hSt.2 b (.inl e)).trans (HS.out.2 b e)⟩⟩

set_option maxRecDepth 100000 in
set_option maxHeartbeats 16000000 in
theorem said_Close (B : Nat) (Q : Nat → Prop) (pv pr : Nat) (σ : Rv) (sn sf : Int) (ss sa st : ByteArray) (hts : st.size ≤ 9223372036854775807) (W : World) (h : PairH B Q W pv pr σ σ) (wf : Wf σ) (hcnt : σ.count ≤ 1000000) :
    Calls Tryz.prog 8 #[.pointer (some ⟨pv, 0, none⟩), .pointer (some ⟨pr, 0, none⟩), .agg #[.int .i64 2, .int .i64 sn, .int .i64 sf, .string ss, .string sa, .string st]] W fun e w' => e = .returned (.bool true) ∧ PairH B Q w' pv pr (closeN σ sn sa) (closeN σ sn sa) ∧ Stay B Q W w' := by
  go_enter Tryz.func8, Tryz.ntmps8
  go_upto_region 1 with fail
  refine name_world ?_
  intro w0 hw0
  have x5 : Bx w0 W.heap.size 29 #[.int .i64 2, .int .i64 sn, .int .i64 sf, .string ss, .string sa, .string st] := by rw [hw0]; exact Bx.new _ _ _
  have H : PairH B (fun b => Q b ∨ b = W.heap.size) w0 pv pr σ σ := by rw [hw0]; exact h.new _
  have S0 : Stay B Q W w0 := by rw [hw0]; exact (Stay.refl _ _ _).call (bnew (Below.refl _ _)) h.base h.lt
  clear hw0 h
  generalize W.heap.size = p5 at *
  have HH := Lib.hid H
  have HS := Lib.hid S0
  clear H S0
  obtain ⟨q5, f5, l5⟩ := x5.all
  go_upto_region 9 with fail
  refine wp_region_inv 14 (fun q u => u = [.pointer (some ⟨pv, 0, none⟩), .pointer (some ⟨p5, 1, none⟩), .int .i64 sn, .pointer (some ⟨p5, 4, none⟩), .string sa, .int .i64 (closeE σ sn sa), .pointer (some ⟨pr, 0, none⟩), .pointer (some ⟨p5, 1, none⟩), .int .i64 sn, .pointer (some ⟨p5, 4, none⟩), .string sa, .int .i64 (closeE σ sn sa), .bool true, .bool true].getD q undef) (fun d vs w' => PairH B (fun b => Q b ∨ b = p5) w' pv pr (if d 5 then (closeN σ sn sa) else σ) (if d 11 then (closeN σ sn sa) else σ) ∧ Stay B (fun b => Q b ∨ b = p5) w0 w') (by kernel_rfl) (by kernel_rfl) ?_ ?_ ?_
  · intro vs
    exact ⟨HH.out.keep ((Below.refl _ _).drew), ⟨(Below.refl _ _).drew, fun _ _ => rfl⟩⟩
  · intro i o hi ho
    rcases (by omega : i = 0 ∨ i = 1 ∨ i = 2 ∨ i = 3 ∨ i = 4 ∨ i = 5 ∨ i = 6 ∨ i = 7 ∨ i = 8 ∨ i = 9 ∨ i = 10 ∨ i = 11 ∨ i = 12 ∨ i = 13) with rfl | rfl | rfl | rfl | rfl | rfl | rfl | rfl | rfl | rfl | rfl | rfl | rfl | rfl
    all_goals simp only [List.getElem?_cons_zero, List.getElem?_cons_succ, Option.some.injEq] at ho
    all_goals subst ho
    all_goals intro d a wx hE hag hdep hun
    · have e0 := slot_eq (hag 0 rfl)
      exact inv_val (v := .pointer (some ⟨pv, 0, none⟩)) (by simp [go_sem, e0]) (fun h => (by cases h)) rfl hE
    · have e0 := slot_eq (hag 5 rfl)
      exact inv_val (v := .pointer (some ⟨p5, 1, none⟩)) (by simp [go_sem, e0]) (fun h => (by cases h)) rfl hE
    · have e0 := slot_eq (hdep ⟨1, .data⟩ (by simp) rfl).1
      have hq := ((hE.2.bx x5 (.inr rfl)).all.1 1)
      simp only [List.getElem?_toArray, List.getElem?_cons_zero, List.getElem?_cons_succ] at hq
      exact inv_val (v := .int .i64 sn) (by simp [go_sem, e0, hq]) (fun h => (by cases h)) rfl hE
    · have e0 := slot_eq (hag 5 rfl)
      exact inv_val (v := .pointer (some ⟨p5, 4, none⟩)) (by simp [go_sem, e0]) (fun h => (by cases h)) rfl hE
    · have e0 := slot_eq (hdep ⟨3, .data⟩ (by simp) rfl).1
      have hq := ((hE.2.bx x5 (.inr rfl)).all.1 4)
      simp only [List.getElem?_toArray, List.getElem?_cons_zero, List.getElem?_cons_succ] at hq
      exact inv_val (v := .string sa) (by simp [go_sem, e0, hq]) (fun h => (by cases h)) rfl hE
    · have e0 := slot_eq (hdep ⟨0, .data⟩ (by simp) rfl).1
      have e1 := slot_eq (hdep ⟨2, .data⟩ (by simp) rfl).1
      have e2 := slot_eq (hdep ⟨4, .data⟩ (by simp) rfl).1
      refine inv_call (f := 21) (args := #[.pointer (some ⟨pv, 0, none⟩), .int .i64 sn, .string sa]) (run_go_call Tryz.func21 (by kernel_rfl) (by kernel_rfl) _ _ _ _ _ _ _ _ _ _ (by simp [Act.eval, e0, e1, e2])) (fun h => (by cases h)) ?_
      obtain ⟨hP, hSt⟩ := hE
      have hun2 := hun
      simp only [hun, Bool.false_eq_true, if_false] at hP
      refine (hP.goV (r := .int .i64 (closeE σ sn sa)) (σ' := (closeN σ sn sa)) (fun F vn m rv hv => conform_Close pv σ F vn m rv sn sa wx hv wf hcnt)).mono ?_
      rintro e w' ⟨rfl, hP2, hS2⟩
      exact ⟨_, rfl, rfl, hP2, hSt.trans hS2⟩
    · have e0 := slot_eq (hag 1 rfl)
      exact inv_val (v := .pointer (some ⟨pr, 0, none⟩)) (by simp [go_sem, e0]) (fun h => (by cases h)) rfl hE
    · have e0 := slot_eq (hag 5 rfl)
      exact inv_val (v := .pointer (some ⟨p5, 1, none⟩)) (by simp [go_sem, e0]) (fun h => (by cases h)) rfl hE
    · have e0 := slot_eq (hdep ⟨7, .data⟩ (by simp) rfl).1
      have hq := ((hE.2.bx x5 (.inr rfl)).all.1 1)
      simp only [List.getElem?_toArray, List.getElem?_cons_zero, List.getElem?_cons_succ] at hq
      exact inv_val (v := .int .i64 sn) (by simp [go_sem, e0, hq]) (fun h => (by cases h)) rfl hE
    · have e0 := slot_eq (hag 5 rfl)
      exact inv_val (v := .pointer (some ⟨p5, 4, none⟩)) (by simp [go_sem, e0]) (fun h => (by cases h)) rfl hE
    · have e0 := slot_eq (hdep ⟨9, .data⟩ (by simp) rfl).1
      have hq := ((hE.2.bx x5 (.inr rfl)).all.1 4)
      simp only [List.getElem?_toArray, List.getElem?_cons_zero, List.getElem?_cons_succ] at hq
      exact inv_val (v := .string sa) (by simp [go_sem, e0, hq]) (fun h => (by cases h)) rfl hE
    · have e0 := slot_eq (hdep ⟨6, .data⟩ (by simp) rfl).1
      have e1 := slot_eq (hdep ⟨8, .data⟩ (by simp) rfl).1
      have e2 := slot_eq (hdep ⟨10, .data⟩ (by simp) rfl).1
      refine inv_call (f := 22) (args := #[.pointer (some ⟨pr, 0, none⟩), .int .i64 sn, .string sa]) (run_go_call Tryz.func22 (by kernel_rfl) (by kernel_rfl) _ _ _ _ _ _ _ _ _ _ (by simp [Act.eval, e0, e1, e2])) (fun h => (by cases h)) ?_
      obtain ⟨hP, hSt⟩ := hE
      have hun2 := hun
      simp only [hun, Bool.false_eq_true, if_false] at hP
      refine (hP.goR (r := .int .i64 (closeE σ sn sa)) (τ' := (closeN σ sn sa)) (fun F vn vb va m rv hr => ref_Close pr σ F vn vb va m rv sn sa wx hr wf hcnt)).mono ?_
      rintro e w' ⟨rfl, hP2, hS2⟩
      exact ⟨_, rfl, rfl, hP2, hSt.trans hS2⟩
    · have e0 := slot_eq (hdep ⟨5, .data⟩ (by simp) rfl).1
      have e1 := slot_eq (hdep ⟨11, .data⟩ (by simp) rfl).1
      exact inv_val (v := .bool true) (by simp [go_sem, e0, e1]) (fun h => (by cases h)) rfl hE
    · have e0 := slot_eq (hdep ⟨12, .data⟩ (by simp) rfl).1
      exact inv_val (v := .bool true) (by simp [go_sem, e0]) (fun h => (by cases h)) rfl hE
  · intro d vs w6 hd hE hA
    obtain ⟨hP, hSt⟩ := hE
    rw [hd 5 (by omega), hd 11 (by omega), if_pos rfl] at hP
    have k0 : vs 0 = .pointer (some ⟨pv, 0, none⟩) := hA 0 (by omega)
    have k1 : vs 1 = .pointer (some ⟨p5, 1, none⟩) := hA 1 (by omega)
    have k2 : vs 2 = .int .i64 sn := hA 2 (by omega)
    have k3 : vs 3 = .pointer (some ⟨p5, 4, none⟩) := hA 3 (by omega)
    have k4 : vs 4 = .string sa := hA 4 (by omega)
    have k5 : vs 5 = .int .i64 (closeE σ sn sa) := hA 5 (by omega)
    have k6 : vs 6 = .pointer (some ⟨pr, 0, none⟩) := hA 6 (by omega)
    have k7 : vs 7 = .pointer (some ⟨p5, 1, none⟩) := hA 7 (by omega)
    have k8 : vs 8 = .int .i64 sn := hA 8 (by omega)
    have k9 : vs 9 = .pointer (some ⟨p5, 4, none⟩) := hA 9 (by omega)
    have k10 : vs 10 = .string sa := hA 10 (by omega)
    have k11 : vs 11 = .int .i64 (closeE σ sn sa) := hA 11 (by omega)
    have k12 : vs 12 = .bool true := hA 12 (by omega)
    have k13 : vs 13 = .bool true := hA 13 (by omega)
    simp only [putAll, dstAt, List.getElem?_toArray, List.getElem?_cons_zero, List.getElem?_cons_succ, Option.bind_some, Option.bind_eq_bind, Act.put, List.setIfInBounds_toArray, List.set_cons_zero, List.set_cons_succ, k0, k1, k2, k3, k4, k5, k6, k7, k8, k9, k10, k11, k12, k13]
    clear hA hd k0 k1 k2 k3 k4 k5 k6 k7 k8 k9 k10 k11 k12 k13 q5 f5 l5
    go_wp2_with fail
    go_ret
    exact ⟨rfl, hP.less (fun b e => .inl e), ⟨HS.out.1.trans hSt.1, fun b e => (hSt.2 b (.inl e)).trans (HS.out.2 b e)⟩⟩

set_option maxRecDepth 100000 in
set_option maxHeartbeats 16000000 in
theorem said_Open (B : Nat) (Q : Nat → Prop) (pv pr : Nat) (σ : Rv) (sn sf : Int) (ss sa st : ByteArray) (hts : st.size ≤ 9223372036854775807) (W : World) (h : PairH B Q W pv pr σ σ) (wf : Wf σ) :
    Calls Tryz.prog 8 #[.pointer (some ⟨pv, 0, none⟩), .pointer (some ⟨pr, 0, none⟩), .agg #[.int .i64 3, .int .i64 sn, .int .i64 sf, .string ss, .string sa, .string st]] W fun e w' => e = .returned (.bool true) ∧ PairH B Q w' pv pr (openN σ sn sa) (openN σ sn sa) ∧ Stay B Q W w' := by
  go_enter Tryz.func8, Tryz.ntmps8
  go_upto_region 1 with fail
  refine name_world ?_
  intro w0 hw0
  have x5 : Bx w0 W.heap.size 29 #[.int .i64 3, .int .i64 sn, .int .i64 sf, .string ss, .string sa, .string st] := by rw [hw0]; exact Bx.new _ _ _
  have H : PairH B (fun b => Q b ∨ b = W.heap.size) w0 pv pr σ σ := by rw [hw0]; exact h.new _
  have S0 : Stay B Q W w0 := by rw [hw0]; exact (Stay.refl _ _ _).call (bnew (Below.refl _ _)) h.base h.lt
  clear hw0 h
  generalize W.heap.size = p5 at *
  have HH := Lib.hid H
  have HS := Lib.hid S0
  clear H S0
  obtain ⟨q5, f5, l5⟩ := x5.all
  go_upto_region 11 with fail
  refine wp_region_inv 14 (fun q u => u = [.pointer (some ⟨pv, 0, none⟩), .pointer (some ⟨p5, 1, none⟩), .int .i64 sn, .pointer (some ⟨p5, 4, none⟩), .string sa, .int .i64 (openE σ sn sa), .pointer (some ⟨pr, 0, none⟩), .pointer (some ⟨p5, 1, none⟩), .int .i64 sn, .pointer (some ⟨p5, 4, none⟩), .string sa, .int .i64 (openE σ sn sa), .bool true, .bool true].getD q undef) (fun d vs w' => PairH B (fun b => Q b ∨ b = p5) w' pv pr (if d 5 then (openN σ sn sa) else σ) (if d 11 then (openN σ sn sa) else σ) ∧ Stay B (fun b => Q b ∨ b = p5) w0 w') (by kernel_rfl) (by kernel_rfl) ?_ ?_ ?_
  · intro vs
    exact ⟨HH.out.keep ((Below.refl _ _).drew), ⟨(Below.refl _ _).drew, fun _ _ => rfl⟩⟩
  · intro i o hi ho
    rcases (by omega : i = 0 ∨ i = 1 ∨ i = 2 ∨ i = 3 ∨ i = 4 ∨ i = 5 ∨ i = 6 ∨ i = 7 ∨ i = 8 ∨ i = 9 ∨ i = 10 ∨ i = 11 ∨ i = 12 ∨ i = 13) with rfl | rfl | rfl | rfl | rfl | rfl | rfl | rfl | rfl | rfl | rfl | rfl | rfl | rfl
    all_goals simp only [List.getElem?_cons_zero, List.getElem?_cons_succ, Option.some.injEq] at ho
    all_goals subst ho
    all_goals intro d a wx hE hag hdep hun
    · have e0 := slot_eq (hag 0 rfl)
      exact inv_val (v := .pointer (some ⟨pv, 0, none⟩)) (by simp [go_sem, e0]) (fun h => (by cases h)) rfl hE
    · have e0 := slot_eq (hag 5 rfl)
      exact inv_val (v := .pointer (some ⟨p5, 1, none⟩)) (by simp [go_sem, e0]) (fun h => (by cases h)) rfl hE
    · have e0 := slot_eq (hdep ⟨1, .data⟩ (by simp) rfl).1
      have hq := ((hE.2.bx x5 (.inr rfl)).all.1 1)
      simp only [List.getElem?_toArray, List.getElem?_cons_zero, List.getElem?_cons_succ] at hq
      exact inv_val (v := .int .i64 sn) (by simp [go_sem, e0, hq]) (fun h => (by cases h)) rfl hE
    · have e0 := slot_eq (hag 5 rfl)
      exact inv_val (v := .pointer (some ⟨p5, 4, none⟩)) (by simp [go_sem, e0]) (fun h => (by cases h)) rfl hE
    · have e0 := slot_eq (hdep ⟨3, .data⟩ (by simp) rfl).1
      have hq := ((hE.2.bx x5 (.inr rfl)).all.1 4)
      simp only [List.getElem?_toArray, List.getElem?_cons_zero, List.getElem?_cons_succ] at hq
      exact inv_val (v := .string sa) (by simp [go_sem, e0, hq]) (fun h => (by cases h)) rfl hE
    · have e0 := slot_eq (hdep ⟨0, .data⟩ (by simp) rfl).1
      have e1 := slot_eq (hdep ⟨2, .data⟩ (by simp) rfl).1
      have e2 := slot_eq (hdep ⟨4, .data⟩ (by simp) rfl).1
      refine inv_call (f := 23) (args := #[.pointer (some ⟨pv, 0, none⟩), .int .i64 sn, .string sa]) (run_go_call Tryz.func23 (by kernel_rfl) (by kernel_rfl) _ _ _ _ _ _ _ _ _ _ (by simp [Act.eval, e0, e1, e2])) (fun h => (by cases h)) ?_
      obtain ⟨hP, hSt⟩ := hE
      have hun2 := hun
      simp only [hun, Bool.false_eq_true, if_false] at hP
      refine (hP.goV (r := .int .i64 (openE σ sn sa)) (σ' := (openN σ sn sa)) (fun F vn m rv hv => conform_Open pv σ F vn m rv sn sa wx hv wf)).mono ?_
      rintro e w' ⟨rfl, hP2, hS2⟩
      exact ⟨_, rfl, rfl, hP2, hSt.trans hS2⟩
    · have e0 := slot_eq (hag 1 rfl)
      exact inv_val (v := .pointer (some ⟨pr, 0, none⟩)) (by simp [go_sem, e0]) (fun h => (by cases h)) rfl hE
    · have e0 := slot_eq (hag 5 rfl)
      exact inv_val (v := .pointer (some ⟨p5, 1, none⟩)) (by simp [go_sem, e0]) (fun h => (by cases h)) rfl hE
    · have e0 := slot_eq (hdep ⟨7, .data⟩ (by simp) rfl).1
      have hq := ((hE.2.bx x5 (.inr rfl)).all.1 1)
      simp only [List.getElem?_toArray, List.getElem?_cons_zero, List.getElem?_cons_succ] at hq
      exact inv_val (v := .int .i64 sn) (by simp [go_sem, e0, hq]) (fun h => (by cases h)) rfl hE
    · have e0 := slot_eq (hag 5 rfl)
      exact inv_val (v := .pointer (some ⟨p5, 4, none⟩)) (by simp [go_sem, e0]) (fun h => (by cases h)) rfl hE
    · have e0 := slot_eq (hdep ⟨9, .data⟩ (by simp) rfl).1
      have hq := ((hE.2.bx x5 (.inr rfl)).all.1 4)
      simp only [List.getElem?_toArray, List.getElem?_cons_zero, List.getElem?_cons_succ] at hq
      exact inv_val (v := .string sa) (by simp [go_sem, e0, hq]) (fun h => (by cases h)) rfl hE
    · have e0 := slot_eq (hdep ⟨6, .data⟩ (by simp) rfl).1
      have e1 := slot_eq (hdep ⟨8, .data⟩ (by simp) rfl).1
      have e2 := slot_eq (hdep ⟨10, .data⟩ (by simp) rfl).1
      refine inv_call (f := 24) (args := #[.pointer (some ⟨pr, 0, none⟩), .int .i64 sn, .string sa]) (run_go_call Tryz.func24 (by kernel_rfl) (by kernel_rfl) _ _ _ _ _ _ _ _ _ _ (by simp [Act.eval, e0, e1, e2])) (fun h => (by cases h)) ?_
      obtain ⟨hP, hSt⟩ := hE
      have hun2 := hun
      simp only [hun, Bool.false_eq_true, if_false] at hP
      refine (hP.goR (r := .int .i64 (openE σ sn sa)) (τ' := (openN σ sn sa)) (fun F vn vb va m rv hr => ref_Open pr σ F vn vb va m rv sn sa wx hr wf)).mono ?_
      rintro e w' ⟨rfl, hP2, hS2⟩
      exact ⟨_, rfl, rfl, hP2, hSt.trans hS2⟩
    · have e0 := slot_eq (hdep ⟨5, .data⟩ (by simp) rfl).1
      have e1 := slot_eq (hdep ⟨11, .data⟩ (by simp) rfl).1
      exact inv_val (v := .bool true) (by simp [go_sem, e0, e1]) (fun h => (by cases h)) rfl hE
    · have e0 := slot_eq (hdep ⟨12, .data⟩ (by simp) rfl).1
      exact inv_val (v := .bool true) (by simp [go_sem, e0]) (fun h => (by cases h)) rfl hE
  · intro d vs w6 hd hE hA
    obtain ⟨hP, hSt⟩ := hE
    rw [hd 5 (by omega), hd 11 (by omega), if_pos rfl] at hP
    have k0 : vs 0 = .pointer (some ⟨pv, 0, none⟩) := hA 0 (by omega)
    have k1 : vs 1 = .pointer (some ⟨p5, 1, none⟩) := hA 1 (by omega)
    have k2 : vs 2 = .int .i64 sn := hA 2 (by omega)
    have k3 : vs 3 = .pointer (some ⟨p5, 4, none⟩) := hA 3 (by omega)
    have k4 : vs 4 = .string sa := hA 4 (by omega)
    have k5 : vs 5 = .int .i64 (openE σ sn sa) := hA 5 (by omega)
    have k6 : vs 6 = .pointer (some ⟨pr, 0, none⟩) := hA 6 (by omega)
    have k7 : vs 7 = .pointer (some ⟨p5, 1, none⟩) := hA 7 (by omega)
    have k8 : vs 8 = .int .i64 sn := hA 8 (by omega)
    have k9 : vs 9 = .pointer (some ⟨p5, 4, none⟩) := hA 9 (by omega)
    have k10 : vs 10 = .string sa := hA 10 (by omega)
    have k11 : vs 11 = .int .i64 (openE σ sn sa) := hA 11 (by omega)
    have k12 : vs 12 = .bool true := hA 12 (by omega)
    have k13 : vs 13 = .bool true := hA 13 (by omega)
    simp only [putAll, dstAt, List.getElem?_toArray, List.getElem?_cons_zero, List.getElem?_cons_succ, Option.bind_some, Option.bind_eq_bind, Act.put, List.setIfInBounds_toArray, List.set_cons_zero, List.set_cons_succ, k0, k1, k2, k3, k4, k5, k6, k7, k8, k9, k10, k11, k12, k13]
    clear hA hd k0 k1 k2 k3 k4 k5 k6 k7 k8 k9 k10 k11 k12 k13 q5 f5 l5
    go_wp2_with fail
    go_ret
    exact ⟨rfl, hP.less (fun b e => .inl e), ⟨HS.out.1.trans hSt.1, fun b e => (hSt.2 b (.inl e)).trans (HS.out.2 b e)⟩⟩

set_option maxRecDepth 100000 in
set_option maxHeartbeats 16000000 in
theorem said_Approve (B : Nat) (Q : Nat → Prop) (pv pr : Nat) (σ : Rv) (sn sf : Int) (ss sa st : ByteArray) (hts : st.size ≤ 9223372036854775807) (W : World) (h : PairH B Q W pv pr σ σ) (wf : Wf σ) (hap : σ.appr.length ≤ 1000000000) :
    Calls Tryz.prog 8 #[.pointer (some ⟨pv, 0, none⟩), .pointer (some ⟨pr, 0, none⟩), .agg #[.int .i64 4, .int .i64 sn, .int .i64 sf, .string ss, .string sa, .string st]] W fun e w' => e = .returned (.bool true) ∧ PairH B Q w' pv pr (apprN σ ss sa) (apprN σ ss sa) ∧ Stay B Q W w' := by
  go_enter Tryz.func8, Tryz.ntmps8
  go_upto_region 1 with fail
  refine name_world ?_
  intro w0 hw0
  have x5 : Bx w0 W.heap.size 29 #[.int .i64 4, .int .i64 sn, .int .i64 sf, .string ss, .string sa, .string st] := by rw [hw0]; exact Bx.new _ _ _
  have H : PairH B (fun b => Q b ∨ b = W.heap.size) w0 pv pr σ σ := by rw [hw0]; exact h.new _
  have S0 : Stay B Q W w0 := by rw [hw0]; exact (Stay.refl _ _ _).call (bnew (Below.refl _ _)) h.base h.lt
  clear hw0 h
  generalize W.heap.size = p5 at *
  have HH := Lib.hid H
  have HS := Lib.hid S0
  clear H S0
  obtain ⟨q5, f5, l5⟩ := x5.all
  go_upto_region 13 with fail
  refine wp_region_inv 14 (fun q u => u = [.pointer (some ⟨pv, 0, none⟩), .pointer (some ⟨p5, 3, none⟩), .string ss, .pointer (some ⟨p5, 4, none⟩), .string sa, .int .i64 (apprE σ ss sa), .pointer (some ⟨pr, 0, none⟩), .pointer (some ⟨p5, 3, none⟩), .string ss, .pointer (some ⟨p5, 4, none⟩), .string sa, .int .i64 (apprE σ ss sa), .bool true, .bool true].getD q undef) (fun d vs w' => PairH B (fun b => Q b ∨ b = p5) w' pv pr (if d 5 then (apprN σ ss sa) else σ) (if d 11 then (apprN σ ss sa) else σ) ∧ Stay B (fun b => Q b ∨ b = p5) w0 w') (by kernel_rfl) (by kernel_rfl) ?_ ?_ ?_
  · intro vs
    exact ⟨HH.out.keep ((Below.refl _ _).drew), ⟨(Below.refl _ _).drew, fun _ _ => rfl⟩⟩
  · intro i o hi ho
    rcases (by omega : i = 0 ∨ i = 1 ∨ i = 2 ∨ i = 3 ∨ i = 4 ∨ i = 5 ∨ i = 6 ∨ i = 7 ∨ i = 8 ∨ i = 9 ∨ i = 10 ∨ i = 11 ∨ i = 12 ∨ i = 13) with rfl | rfl | rfl | rfl | rfl | rfl | rfl | rfl | rfl | rfl | rfl | rfl | rfl | rfl
    all_goals simp only [List.getElem?_cons_zero, List.getElem?_cons_succ, Option.some.injEq] at ho
    all_goals subst ho
    all_goals intro d a wx hE hag hdep hun
    · have e0 := slot_eq (hag 0 rfl)
      exact inv_val (v := .pointer (some ⟨pv, 0, none⟩)) (by simp [go_sem, e0]) (fun h => (by cases h)) rfl hE
    · have e0 := slot_eq (hag 5 rfl)
      exact inv_val (v := .pointer (some ⟨p5, 3, none⟩)) (by simp [go_sem, e0]) (fun h => (by cases h)) rfl hE
    · have e0 := slot_eq (hdep ⟨1, .data⟩ (by simp) rfl).1
      have hq := ((hE.2.bx x5 (.inr rfl)).all.1 3)
      simp only [List.getElem?_toArray, List.getElem?_cons_zero, List.getElem?_cons_succ] at hq
      exact inv_val (v := .string ss) (by simp [go_sem, e0, hq]) (fun h => (by cases h)) rfl hE
    · have e0 := slot_eq (hag 5 rfl)
      exact inv_val (v := .pointer (some ⟨p5, 4, none⟩)) (by simp [go_sem, e0]) (fun h => (by cases h)) rfl hE
    · have e0 := slot_eq (hdep ⟨3, .data⟩ (by simp) rfl).1
      have hq := ((hE.2.bx x5 (.inr rfl)).all.1 4)
      simp only [List.getElem?_toArray, List.getElem?_cons_zero, List.getElem?_cons_succ] at hq
      exact inv_val (v := .string sa) (by simp [go_sem, e0, hq]) (fun h => (by cases h)) rfl hE
    · have e0 := slot_eq (hdep ⟨0, .data⟩ (by simp) rfl).1
      have e1 := slot_eq (hdep ⟨2, .data⟩ (by simp) rfl).1
      have e2 := slot_eq (hdep ⟨4, .data⟩ (by simp) rfl).1
      refine inv_call (f := 25) (args := #[.pointer (some ⟨pv, 0, none⟩), .string ss, .string sa]) (run_go_call Tryz.func25 (by kernel_rfl) (by kernel_rfl) _ _ _ _ _ _ _ _ _ _ (by simp [Act.eval, e0, e1, e2])) (fun h => (by cases h)) ?_
      obtain ⟨hP, hSt⟩ := hE
      have hun2 := hun
      simp only [hun, Bool.false_eq_true, if_false] at hP
      refine (hP.goV (r := .int .i64 (apprE σ ss sa)) (σ' := (apprN σ ss sa)) (fun F vn m rv hv => conform_Approve pv σ F vn m rv ss sa wx hv wf hap)).mono ?_
      rintro e w' ⟨rfl, hP2, hS2⟩
      exact ⟨_, rfl, rfl, hP2, hSt.trans hS2⟩
    · have e0 := slot_eq (hag 1 rfl)
      exact inv_val (v := .pointer (some ⟨pr, 0, none⟩)) (by simp [go_sem, e0]) (fun h => (by cases h)) rfl hE
    · have e0 := slot_eq (hag 5 rfl)
      exact inv_val (v := .pointer (some ⟨p5, 3, none⟩)) (by simp [go_sem, e0]) (fun h => (by cases h)) rfl hE
    · have e0 := slot_eq (hdep ⟨7, .data⟩ (by simp) rfl).1
      have hq := ((hE.2.bx x5 (.inr rfl)).all.1 3)
      simp only [List.getElem?_toArray, List.getElem?_cons_zero, List.getElem?_cons_succ] at hq
      exact inv_val (v := .string ss) (by simp [go_sem, e0, hq]) (fun h => (by cases h)) rfl hE
    · have e0 := slot_eq (hag 5 rfl)
      exact inv_val (v := .pointer (some ⟨p5, 4, none⟩)) (by simp [go_sem, e0]) (fun h => (by cases h)) rfl hE
    · have e0 := slot_eq (hdep ⟨9, .data⟩ (by simp) rfl).1
      have hq := ((hE.2.bx x5 (.inr rfl)).all.1 4)
      simp only [List.getElem?_toArray, List.getElem?_cons_zero, List.getElem?_cons_succ] at hq
      exact inv_val (v := .string sa) (by simp [go_sem, e0, hq]) (fun h => (by cases h)) rfl hE
    · have e0 := slot_eq (hdep ⟨6, .data⟩ (by simp) rfl).1
      have e1 := slot_eq (hdep ⟨8, .data⟩ (by simp) rfl).1
      have e2 := slot_eq (hdep ⟨10, .data⟩ (by simp) rfl).1
      refine inv_call (f := 26) (args := #[.pointer (some ⟨pr, 0, none⟩), .string ss, .string sa]) (run_go_call Tryz.func26 (by kernel_rfl) (by kernel_rfl) _ _ _ _ _ _ _ _ _ _ (by simp [Act.eval, e0, e1, e2])) (fun h => (by cases h)) ?_
      obtain ⟨hP, hSt⟩ := hE
      have hun2 := hun
      simp only [hun, Bool.false_eq_true, if_false] at hP
      refine (hP.goR (r := .int .i64 (apprE σ ss sa)) (τ' := (apprN σ ss sa)) (fun F vn vb va m rv hr => ref_Approve pr σ F vn vb va m rv ss sa wx hr wf hap)).mono ?_
      rintro e w' ⟨rfl, hP2, hS2⟩
      exact ⟨_, rfl, rfl, hP2, hSt.trans hS2⟩
    · have e0 := slot_eq (hdep ⟨5, .data⟩ (by simp) rfl).1
      have e1 := slot_eq (hdep ⟨11, .data⟩ (by simp) rfl).1
      exact inv_val (v := .bool true) (by simp [go_sem, e0, e1]) (fun h => (by cases h)) rfl hE
    · have e0 := slot_eq (hdep ⟨12, .data⟩ (by simp) rfl).1
      exact inv_val (v := .bool true) (by simp [go_sem, e0]) (fun h => (by cases h)) rfl hE
  · intro d vs w6 hd hE hA
    obtain ⟨hP, hSt⟩ := hE
    rw [hd 5 (by omega), hd 11 (by omega), if_pos rfl] at hP
    have k0 : vs 0 = .pointer (some ⟨pv, 0, none⟩) := hA 0 (by omega)
    have k1 : vs 1 = .pointer (some ⟨p5, 3, none⟩) := hA 1 (by omega)
    have k2 : vs 2 = .string ss := hA 2 (by omega)
    have k3 : vs 3 = .pointer (some ⟨p5, 4, none⟩) := hA 3 (by omega)
    have k4 : vs 4 = .string sa := hA 4 (by omega)
    have k5 : vs 5 = .int .i64 (apprE σ ss sa) := hA 5 (by omega)
    have k6 : vs 6 = .pointer (some ⟨pr, 0, none⟩) := hA 6 (by omega)
    have k7 : vs 7 = .pointer (some ⟨p5, 3, none⟩) := hA 7 (by omega)
    have k8 : vs 8 = .string ss := hA 8 (by omega)
    have k9 : vs 9 = .pointer (some ⟨p5, 4, none⟩) := hA 9 (by omega)
    have k10 : vs 10 = .string sa := hA 10 (by omega)
    have k11 : vs 11 = .int .i64 (apprE σ ss sa) := hA 11 (by omega)
    have k12 : vs 12 = .bool true := hA 12 (by omega)
    have k13 : vs 13 = .bool true := hA 13 (by omega)
    simp only [putAll, dstAt, List.getElem?_toArray, List.getElem?_cons_zero, List.getElem?_cons_succ, Option.bind_some, Option.bind_eq_bind, Act.put, List.setIfInBounds_toArray, List.set_cons_zero, List.set_cons_succ, k0, k1, k2, k3, k4, k5, k6, k7, k8, k9, k10, k11, k12, k13]
    clear hA hd k0 k1 k2 k3 k4 k5 k6 k7 k8 k9 k10 k11 k12 k13 q5 f5 l5
    go_wp2_with fail
    go_ret
    exact ⟨rfl, hP.less (fun b e => .inl e), ⟨HS.out.1.trans hSt.1, fun b e => (hSt.2 b (.inl e)).trans (HS.out.2 b e)⟩⟩

end Go.Proofs.YtilninaminaadaaGreatDoor
