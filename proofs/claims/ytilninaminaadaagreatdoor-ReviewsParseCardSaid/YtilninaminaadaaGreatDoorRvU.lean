/- Each call with a review, whatever comes in. (printed by gen_rvu.py) -/
import Derived.Test.YtilninaminaadaaGreatDoorRvQ
namespace Go.Proofs.YtilninaminaadaaGreatDoor
open Go.RowKit

def addN (σ : Rv) (shot : ByteArray) (frame : Int) (author text : ByteArray) : Rv := if addE σ shot frame author text = 0 then addS σ shot frame author text else σ
def replyN (σ : Rv) (n : Int) (author text : ByteArray) : Rv := if replyE σ n author text = 0 then replyS σ n author text else σ
def closeN (σ : Rv) (n : Int) (author : ByteArray) : Rv := if closeE σ n author = 0 then closeS σ n author else σ
def openN (σ : Rv) (n : Int) (author : ByteArray) : Rv := if openE σ n author = 0 then openS σ n else σ
def apprN (σ : Rv) (shot author : ByteArray) : Rv := if apprE σ shot author = 0 then apprS σ shot author else σ
theorem Wf.addN {σ : Rv} (h : Wf σ) (shot : ByteArray) (frame : Int) (author text : ByteArray) : Wf (addN σ shot frame author text) := by
  unfold Proofs.YtilninaminaadaaGreatDoor.addN; split
  · exact h.add ‹_›
  · exact h
theorem Wf.replyN {σ : Rv} (h : Wf σ) (n : Int) (author text : ByteArray) : Wf (replyN σ n author text) := by
  unfold Proofs.YtilninaminaadaaGreatDoor.replyN; split
  · exact h.reply ‹_›
  · exact h
theorem Wf.closeN {σ : Rv} (h : Wf σ) (n : Int) (author : ByteArray) : Wf (closeN σ n author) := by
  unfold Proofs.YtilninaminaadaaGreatDoor.closeN; split
  · exact h.close ‹_›
  · exact h
theorem Wf.openN {σ : Rv} (h : Wf σ) (n : Int) (author : ByteArray) : Wf (openN σ n author) := by
  unfold Proofs.YtilninaminaadaaGreatDoor.openN; split
  · exact h.open ‹_›
  · exact h
theorem Wf.apprN {σ : Rv} (h : Wf σ) (shot author : ByteArray) : Wf (apprN σ shot author) := by
  unfold Proofs.YtilninaminaadaaGreatDoor.apprN; split
  · exact h.approve ‹_›
  · exact h
theorem VO.same {W w' : World} {p : Nat} {σ : Rv} {F : Nat → Prop} {vn : Value} {m : Nat} {rv : Nat → Value} (h : VO W p σ F vn m rv) (hb : Below W.heap.size W w') : VGo W p σ F w' := ⟨F, vn, m, rv, h.keep hb, Fr.of_below hb, fun _ e => .inl e⟩
theorem RO.same {W w' : World} {p : Nat} {σ : Rv} {F : Nat → Prop} {vn vb va : Value} {m : Nat} {rv : Nat → Value} (h : RO W p σ F vn vb va m rv) (hb : Below W.heap.size W w') : RGo W p σ F w' := ⟨F, vn, vb, va, m, rv, h.keep hb, Fr.of_below hb, fun _ e => .inl e⟩

theorem conform_Add (p : Nat) (σ : Rv) (F : Nat → Prop) (vn : Value) (m : Nat) (rv : Nat → Value) (shot : ByteArray) (frame : Int) (author text : ByteArray) (W : World) (h : VO W p σ F vn m rv) (wf : Wf σ) :
    Calls Tryz.prog 17 #[.pointer (some ⟨p, 0, none⟩), .string shot, .int .i64 frame, .string author, .string text] W fun e w' => e = .returned (.tuple #[.int .i64 (if addE σ shot frame author text = 0 then (σ.notes.length : Int) + 1 else 0), .int .i64 (addE σ shot frame author text)]) ∧ VGo W p (addN σ shot frame author text) F w' := by
  unfold addN
  by_cases h0 : addE σ shot frame author text = 0
  · rw [if_pos h0]
    rw [h0]; rw [if_pos rfl]
    exact conform_Add_ok p σ F vn m rv shot frame author text W h h0
  · rw [if_neg h0]; rw [if_neg h0]
    exact (conform_Add_err p σ F vn m rv shot frame author text W h wf h0).mono fun _ _ ⟨a, b⟩ => ⟨a, h.same b⟩

theorem conform_Reply (p : Nat) (σ : Rv) (F : Nat → Prop) (vn : Value) (m : Nat) (rv : Nat → Value) (n : Int) (author text : ByteArray) (W : World) (h : VO W p σ F vn m rv) (wf : Wf σ) :
    Calls Tryz.prog 19 #[.pointer (some ⟨p, 0, none⟩), .int .i64 n, .string author, .string text] W fun e w' => e = .returned (.int .i64 (replyE σ n author text)) ∧ VGo W p (replyN σ n author text) F w' := by
  unfold replyN
  by_cases h0 : replyE σ n author text = 0
  · rw [if_pos h0]
    rw [h0]
    exact conform_Reply_ok p σ F vn m rv n author text W h wf h0
  · rw [if_neg h0]
    exact (conform_Reply_err p σ F vn m rv n author text W h wf h0).mono fun _ _ ⟨a, b⟩ => ⟨a, h.same b⟩

theorem conform_Close (p : Nat) (σ : Rv) (F : Nat → Prop) (vn : Value) (m : Nat) (rv : Nat → Value) (n : Int) (author : ByteArray) (W : World) (h : VO W p σ F vn m rv) (wf : Wf σ) (hcnt : σ.count ≤ 1000000) :
    Calls Tryz.prog 21 #[.pointer (some ⟨p, 0, none⟩), .int .i64 n, .string author] W fun e w' => e = .returned (.int .i64 (closeE σ n author)) ∧ VGo W p (closeN σ n author) F w' := by
  unfold closeN
  by_cases h0 : closeE σ n author = 0
  · rw [if_pos h0]
    rw [h0]
    exact conform_Close_ok p σ F vn m rv n author W h wf hcnt h0
  · rw [if_neg h0]
    exact (conform_Close_err p σ F vn m rv n author W h wf h0).mono fun _ _ ⟨a, b⟩ => ⟨a, h.same b⟩

theorem conform_Open (p : Nat) (σ : Rv) (F : Nat → Prop) (vn : Value) (m : Nat) (rv : Nat → Value) (n : Int) (author : ByteArray) (W : World) (h : VO W p σ F vn m rv) (wf : Wf σ) :
    Calls Tryz.prog 23 #[.pointer (some ⟨p, 0, none⟩), .int .i64 n, .string author] W fun e w' => e = .returned (.int .i64 (openE σ n author)) ∧ VGo W p (openN σ n author) F w' := by
  unfold openN
  by_cases h0 : openE σ n author = 0
  · rw [if_pos h0]
    rw [h0]
    exact conform_Open_ok p σ F vn m rv n author W h wf h0
  · rw [if_neg h0]
    exact (conform_Open_err p σ F vn m rv n author W h wf h0).mono fun _ _ ⟨a, b⟩ => ⟨a, h.same b⟩

theorem conform_Approve (p : Nat) (σ : Rv) (F : Nat → Prop) (vn : Value) (m : Nat) (rv : Nat → Value) (shot author : ByteArray) (W : World) (h : VO W p σ F vn m rv) (wf : Wf σ) (hl : σ.appr.length ≤ 1000000000) :
    Calls Tryz.prog 25 #[.pointer (some ⟨p, 0, none⟩), .string shot, .string author] W fun e w' => e = .returned (.int .i64 (apprE σ shot author)) ∧ VGo W p (apprN σ shot author) F w' := by
  refine (conform_Approve_any p σ F vn m rv shot author W h wf hl).mono fun e w' ⟨a, b, c⟩ => ⟨a, ?_⟩
  unfold apprN
  by_cases h0 : apprE σ shot author = 0
  · rw [if_pos h0]; exact c h0
  · rw [if_neg h0]; exact h.same (b h0)

theorem ref_Add (p : Nat) (σ : Rv) (F : Nat → Prop) (vn vb va : Value) (m : Nat) (rv : Nat → Value) (shot : ByteArray) (frame : Int) (author text : ByteArray) (hts : text.size ≤ 9223372036854775807) (W : World) (h : RO W p σ F vn vb va m rv) (wf : Wf σ) :
    Calls Tryz.prog 18 #[.pointer (some ⟨p, 0, none⟩), .string shot, .int .i64 frame, .string author, .string text] W fun e w' => e = .returned (.tuple #[.int .i64 (if addE σ shot frame author text = 0 then (σ.notes.length : Int) + 1 else 0), .int .i64 (addE σ shot frame author text)]) ∧ RGo W p (addN σ shot frame author text) F w' := by
  unfold addN
  by_cases h0 : addE σ shot frame author text = 0
  · rw [if_pos h0]
    rw [h0]; rw [if_pos rfl]
    exact ref_Add_ok p σ F vn vb va m rv shot frame author text hts W h h0
  · rw [if_neg h0]; rw [if_neg h0]
    exact (ref_Add_err p σ F vn vb va m rv shot frame author text hts W h wf h0).mono fun _ _ ⟨a, b⟩ => ⟨a, h.same b⟩

theorem ref_Reply (p : Nat) (σ : Rv) (F : Nat → Prop) (vn vb va : Value) (m : Nat) (rv : Nat → Value) (n : Int) (author text : ByteArray) (hts : text.size ≤ 9223372036854775807) (W : World) (h : RO W p σ F vn vb va m rv) (wf : Wf σ) :
    Calls Tryz.prog 20 #[.pointer (some ⟨p, 0, none⟩), .int .i64 n, .string author, .string text] W fun e w' => e = .returned (.int .i64 (replyE σ n author text)) ∧ RGo W p (replyN σ n author text) F w' := by
  unfold replyN
  by_cases h0 : replyE σ n author text = 0
  · rw [if_pos h0]
    rw [h0]
    exact ref_Reply_ok p σ F vn vb va m rv n author text hts W h wf h0
  · rw [if_neg h0]
    exact (ref_Reply_err p σ F vn vb va m rv n author text hts W h wf h0).mono fun _ _ ⟨a, b⟩ => ⟨a, h.same b⟩

theorem ref_Close (p : Nat) (σ : Rv) (F : Nat → Prop) (vn vb va : Value) (m : Nat) (rv : Nat → Value) (n : Int) (author : ByteArray) (W : World) (h : RO W p σ F vn vb va m rv) (wf : Wf σ) (hcnt : σ.count ≤ 1000000) :
    Calls Tryz.prog 22 #[.pointer (some ⟨p, 0, none⟩), .int .i64 n, .string author] W fun e w' => e = .returned (.int .i64 (closeE σ n author)) ∧ RGo W p (closeN σ n author) F w' := by
  unfold closeN
  by_cases h0 : closeE σ n author = 0
  · rw [if_pos h0]
    rw [h0]
    exact ref_Close_ok p σ F vn vb va m rv n author W h wf hcnt h0
  · rw [if_neg h0]
    exact (ref_Close_err p σ F vn vb va m rv n author W h wf h0).mono fun _ _ ⟨a, b⟩ => ⟨a, h.same b⟩

theorem ref_Open (p : Nat) (σ : Rv) (F : Nat → Prop) (vn vb va : Value) (m : Nat) (rv : Nat → Value) (n : Int) (author : ByteArray) (W : World) (h : RO W p σ F vn vb va m rv) (wf : Wf σ) :
    Calls Tryz.prog 24 #[.pointer (some ⟨p, 0, none⟩), .int .i64 n, .string author] W fun e w' => e = .returned (.int .i64 (openE σ n author)) ∧ RGo W p (openN σ n author) F w' := by
  unfold openN
  by_cases h0 : openE σ n author = 0
  · rw [if_pos h0]
    rw [h0]
    exact ref_Open_ok p σ F vn vb va m rv n author W h wf h0
  · rw [if_neg h0]
    exact (ref_Open_err p σ F vn vb va m rv n author W h wf h0).mono fun _ _ ⟨a, b⟩ => ⟨a, h.same b⟩

theorem ref_Approve (p : Nat) (σ : Rv) (F : Nat → Prop) (vn vb va : Value) (m : Nat) (rv : Nat → Value) (shot author : ByteArray) (W : World) (h : RO W p σ F vn vb va m rv) (wf : Wf σ) (hl : σ.appr.length ≤ 1000000000) :
    Calls Tryz.prog 26 #[.pointer (some ⟨p, 0, none⟩), .string shot, .string author] W fun e w' => e = .returned (.int .i64 (apprE σ shot author)) ∧ RGo W p (apprN σ shot author) F w' := by
  refine (ref_Approve_any p σ F vn vb va m rv shot author W h wf hl).mono fun e w' ⟨a, b, c⟩ => ⟨a, ?_⟩
  unfold apprN
  by_cases h0 : apprE σ shot author = 0
  · rw [if_pos h0]; exact c h0
  · rw [if_neg h0]; exact h.same (b h0)
end Go.Proofs.YtilninaminaadaaGreatDoor
