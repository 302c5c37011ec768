/- The words of a line. No program in sight. -/
import Derived.Test.YtemlabmmafcapaaGreatDoorTfA
import Derived.Lib.FieldsP
import Derived.Lib.TrimAscii
import Derived.Lib.TrimUEq
namespace Go.Proofs.YtemlabmmafcapaaGreatDoor

theorem decode_lt (s : ByteArray) (pos : Nat) {b : UInt8} {t : List UInt8} (h : s.data.toList.drop pos = b :: t) (hb : b.toNat < 128) : Utf8.decode s pos = (b.toNat, 1) := by
  rw [← Lib.decodeL_drop, h, Lib.decodeL_ascii _ _ hb]
theorem drop_lt {s : ByteArray} {pos : Nat} {b : UInt8} {t : List UInt8} (h : s.data.toList.drop pos = b :: t) : pos < s.size := by
  rw [Lib.size_eq]
  rcases Nat.lt_or_ge pos s.data.toList.length with h1 | h1
  · exact h1
  · rw [List.drop_eq_nil_of_le h1] at h; cases h
theorem drop_next {s : ByteArray} {pos : Nat} {b : UInt8} {t : List UInt8} (h : s.data.toList.drop pos = b :: t) : s.data.toList.drop (pos + 1) = t := by
  rw [← List.drop_drop, h]; rfl
/-- A word of a line. -/
def Wrd (p : Nat → Bool) (w : List UInt8) : Prop := w ≠ [] ∧ ∀ b ∈ w, b.toNat < 128 ∧ p b.toNat = false
theorem span_word (p : Nat → Bool) (s : ByteArray) : ∀ (w t : List UInt8) (pos f a : Nat) (acc : List (Nat × Nat)), s.data.toList.drop pos = w ++ t → (∀ b ∈ w, b.toNat < 128 ∧ p b.toNat = false) → w.length ≤ f →
    Lib.spansFromP p s f pos (some a) acc = Lib.spansFromP p s (f - w.length) (pos + w.length) (some a) acc
  | [], _, _, _, _, _, _, _, _ => rfl
  | b :: w, t, pos, f, a, acc, h, hw, hf => by
    obtain ⟨h1, h2⟩ := hw b (by simp)
    have hp := drop_lt h
    have hn := drop_next h
    cases f with
    | zero => simp at hf
    | succ f =>
      rw [Lib.spansFromP, if_pos hp, decode_lt s pos h h1]
      simp only [h2, Bool.false_eq_true, if_false]
      rw [span_word p s w t (pos + 1) f a acc hn (fun c hc => hw c (by simp [hc])) (by simpa using hf)]
      rw [List.length_cons, show f + 1 - (w.length + 1) = f - w.length by omega, show pos + 1 + w.length = pos + (w.length + 1) by omega]
def joinW : List (List UInt8) → List UInt8
  | [] => []
  | [w] => w
  | w :: v :: r => w ++ 32 :: joinW (v :: r)
def spanL (pos : Nat) : List (List UInt8) → List (Nat × Nat)
  | [] => []
  | w :: r => (pos, pos + w.length) :: spanL (pos + w.length + 1) r
theorem span_join (p : Nat → Bool) (hp32 : p 32 = true) (s : ByteArray) : ∀ (ws : List (List UInt8)) (pos f : Nat) (acc : List (Nat × Nat)), s.data.toList.drop pos = joinW ws → (∀ w ∈ ws, Wrd p w) → pos ≤ s.size → s.size - pos ≤ f →
    Lib.closeSpans s (Lib.spansFromP p s f pos none acc) = acc ++ spanL pos ws
  | [], pos, f, acc, h, _, hp, _ => by
    have h1 : ¬ pos < s.size := by
      intro h2
      rw [Lib.size_eq] at h2
      have := congrArg List.length h
      rw [List.length_drop] at this
      have : s.data.toList.length - pos = 0 := this
      omega
    rw [Lib.spansFromP_end _ _ _ _ _ _ h1]
    simp [Lib.closeSpans, spanL]
  | [w], pos, f, acc, h, hw, hp, hf => by
    obtain ⟨hne, hok⟩ := hw w (by simp)
    have hsz : s.size = pos + w.length := by
      have := congrArg List.length h
      rw [List.length_drop, ← Lib.size_eq] at this
      simp only [joinW] at this
      omega
    cases w with
    | nil => exact absurd rfl hne
    | cons b w =>
      have h' : s.data.toList.drop pos = b :: w := h
      obtain ⟨h1, h2⟩ := hok b (by simp)
      have hn := drop_next h'
      cases f with
      | zero => rw [List.length_cons] at hsz; omega
      | succ f =>
        rw [Lib.spansFromP, if_pos (drop_lt h'), decode_lt s pos h' h1]
        simp only [h2, Bool.false_eq_true, if_false]
        rw [span_word p s w [] (pos + 1) f pos acc (by rw [hn, List.append_nil]) (fun c hc => hok c (by simp [hc])) (by rw [List.length_cons] at hsz; omega)]
        rw [Lib.spansFromP_end _ _ _ _ _ _ (by rw [List.length_cons] at hsz; omega)]
        simp [Lib.closeSpans, spanL, hsz]
  | w :: v :: r, pos, f, acc, h, hw, hp, hf => by
    obtain ⟨hne, hok⟩ := hw w (by simp)
    have hsz : s.size = pos + w.length + 1 + (joinW (v :: r)).length := by
      have := congrArg List.length h
      rw [List.length_drop, ← Lib.size_eq] at this
      simp only [joinW, List.length_append, List.length_cons] at this
      omega
    cases w with
    | nil => exact absurd rfl hne
    | cons b w =>
      have h' : s.data.toList.drop pos = b :: (w ++ 32 :: joinW (v :: r)) := h
      obtain ⟨h1, h2⟩ := hok b (by simp)
      have hn := drop_next h'
      rw [List.length_cons] at hsz
      obtain ⟨f, rfl⟩ : ∃ g, f = g + 1 := ⟨f - 1, by omega⟩
      rw [Lib.spansFromP, if_pos (drop_lt h'), decode_lt s pos h' h1]
      simp only [h2, Bool.false_eq_true, if_false]
      rw [span_word p s w (32 :: joinW (v :: r)) (pos + 1) f pos acc hn (fun c hc => hok c (by simp [hc])) (by omega)]
      have hs : s.data.toList.drop (pos + 1 + w.length) = 32 :: joinW (v :: r) := by
        rw [← List.drop_drop, hn, List.drop_left]
      have hs2 := drop_next hs
      obtain ⟨g, hg⟩ : ∃ g, f - w.length = g + 1 := ⟨f - w.length - 1, by omega⟩
      rw [hg, Lib.spansFromP, if_pos (drop_lt hs), decode_lt s _ hs (by decide)]
      simp only [show (32 : UInt8).toNat = 32 by rfl, hp32, if_true]
      rw [span_join p hp32 s (v :: r) (pos + 1 + w.length + 1) g (acc ++ [(pos, pos + 1 + w.length)]) hs2 (fun x hx => hw x (by simp at hx ⊢; exact .inr hx)) (by omega) (by omega)]
      rw [List.append_assoc]
      simp only [spanL, List.length_cons, List.singleton_append]
      rw [show pos + 1 + w.length = pos + (w.length + 1) by omega]
theorem extract_list (s : ByteArray) (a b : Nat) : (s.extract a b).data.toList = (s.data.toList.drop a).take (b - a) := by
  simp [ByteArray.data_extract]
theorem span_pieces (s : ByteArray) : ∀ (ws : List (List UInt8)) (pos : Nat), s.data.toList.drop pos = joinW ws → ((spanL pos ws).map fun x => s.extract x.1 x.2) = ws.map ofL
  | [], _, _ => rfl
  | [w], pos, h => by
    have h : s.data.toList.drop pos = w := h
    simp only [spanL, List.map_cons, List.map_nil, List.cons.injEq, and_true]
    apply ByteArray.ext
    apply Array.toList_inj.1
    rw [extract_list, h, ofL_list, show pos + w.length - pos = w.length by omega, List.take_length]
  | w :: v :: r, pos, h => by
    have h : s.data.toList.drop pos = w ++ 32 :: joinW (v :: r) := h
    have h2 : s.data.toList.drop (pos + w.length + 1) = joinW (v :: r) := by
      rw [← List.drop_drop, ← List.drop_drop, h, List.drop_left]; rfl
    have ih := span_pieces s (v :: r) _ h2
    rw [spanL, List.map_cons, ih, List.map_cons]
    congr 1
    apply ByteArray.ext
    apply Array.toList_inj.1
    rw [extract_list, h, ofL_list, show pos + w.length - pos = w.length by omega, List.take_left]
/-- The words of a line of words, one blank between two. -/
theorem fields_join (p : Nat → Bool) (hp32 : p 32 = true) (ws : List (List UInt8)) (hw : ∀ w ∈ ws, Wrd p w) : Lib.goFieldsP p (ofL (joinW ws)) = ws.map ofL := by
  unfold Lib.goFieldsP Lib.spansOfP
  rw [span_join p hp32 (ofL (joinW ws)) ws 0 _ [] (by rw [ofL_list]; rfl) hw (Nat.zero_le _) (by omega), List.nil_append]
  exact span_pieces _ ws 0 (by rw [ofL_list]; rfl)
end Go.Proofs.YtemlabmmafcapaaGreatDoor
