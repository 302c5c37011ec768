/- house.Quote: a word as it stands in a line. (printed by gen_wdk.py) -/
import Derived.Test.YtojieeenbbgpdaaWdJ
import Derived.Test.YtojieeenbbgpdaaWdR
namespace Go.Proofs.Ytojieeenbbgpdaa
open Go.RowKit

theorem name_callw {P : Program} {f : FuncId} {args : Array Value} {w0 : World} {Q : Ending → World → Prop} (h : ∀ wb, wb = w0 → Calls P f args wb Q) : Calls P f args w0 Q := h _ rfl
/-- A text of these bytes. -/
def bytesB (l : List UInt8) : ByteArray := ⟨l.toArray⟩
theorem esc_size (s : ByteArray) : (esc s.data.toList).length ≤ 2 * s.size := by
  rw [esc_len, Lib.size_eq]
  have := nsp_le s.data.toList
  omega
theorem bytes_two (l : List UInt8) : bytesB (34 :: (l ++ [34])) = ((⟨#[34]⟩ : ByteArray) ++ (⟨l.toArray⟩ : ByteArray)) ++ (⟨#[34]⟩ : ByteArray) := by
  unfold bytesB
  apply ByteArray.ext
  simp
theorem quoted_of {s : ByteArray} (h : plainW s.data.toList = false) : bytesB (quoteL s.data.toList) = bytesB (34 :: (esc s.data.toList ++ [34])) := by
  unfold quoteL
  rw [h, if_neg Bool.false_ne_true]
theorem plain_empty {s : ByteArray} (h : s.toList.isEmpty = true) : plainW s.data.toList = false := by
  unfold plainW
  rw [Lib.toList_data] at h
  rw [h]; rfl
theorem plain_special {s : ByteArray} (h : s.data.toList.any special = true) : plainW s.data.toList = false := by
  unfold plainW
  rw [h, Bool.not_true, Bool.and_false]
theorem plain_plain {s : ByteArray} (h : s.toList.isEmpty = false) (h2 : s.data.toList.any special = false) : plainW s.data.toList = true := by
  unfold plainW
  rw [Lib.toList_data] at h
  rw [h, h2]; rfl
theorem quote_plain {s : ByteArray} (h : plainW s.data.toList = true) : bytesB (quoteL s.data.toList) = s := by
  unfold quoteL bytesB
  rw [h, if_pos rfl, bytes_list]

set_option maxRecDepth 100000 in
set_option maxHeartbeats 4000000 in
theorem house_Quote (s : ByteArray) (W : World) (hs : s.size ≤ 140737488355328) : Calls Try.prog 8 #[.string s] W fun e w' => e = .returned (.string (bytesB (quoteL s.data.toList))) ∧ Below W.heap.size W w' := by
  have hes := esc_size s
  obtain ⟨Res, hRes⟩ : ∃ r, bytesB (quoteL s.data.toList) = r := ⟨_, rfl⟩
  rw [hRes]
  cases hem : s.toList.isEmpty
  rotate_left
  · have hq : Res = _ := hRes.symm.trans (quoted_of (plain_empty hem))
    clear hRes
    have B := Below.refl W.heap.size W
    go_enter Try.func8, Try.ntmps8
    go_wp2_with fail
    refine name_callw ?_
    intro w2 hw2
    obtain ⟨g, hg⟩ : ∃ g, g = W.heap.size := ⟨_, rfl⟩
    have x2 : Bx w2 g 9 onCells := by rw [hw2, hg]; exact Bx.new _ _ _
    have B2 : Below W.heap.size W w2 := by rw [hw2]; exact bnew B
    rw [← hg]
    clear hw2 hg
    refine (new_Replacer g _ x2).mono ?_
    rintro e w3 ⟨p, b, c, rfl, x3, hb1, hbp, hc, B3⟩
    go_wp2_with fail
    refine (rep_Replace p b c s _ x3 (by have := x3.lt; omega) (by omega) hc hs).mono ?_
    rintro e w4 ⟨rfl, B4⟩
    have B5 : Below W.heap.size W w4 := B4 _ _ (by have := B2.size; omega) (B2.trans (B3.mono B2.size))
    clear B B2 B3 B4 x2 x3 hc
    obtain ⟨l, hl⟩ : ∃ l, esc s.data.toList = l := ⟨_, rfl⟩
    rw [hl] at hq hes ⊢
    obtain ⟨R, hR⟩ : ∃ R : ByteArray, (⟨l.toArray⟩ : ByteArray) = R := ⟨_, rfl⟩
    have hRs : R.size = l.length := by rw [← hR]; exact List.size_toArray
    have hqq : Res = (⟨#[34]⟩ ++ R) ++ ⟨#[34]⟩ := by
      rw [hq, ← hR]
      exact bytes_two _
    subst hqq
    rw [hR]
    clear hl hR hq
    go_wp2_with fail
    go_ret
    exact ⟨rfl, B5⟩
  · cases hsp : s.data.toList.any special
    · have hq : s = Res := (quote_plain (plain_plain hem hsp)).symm.trans hRes
      subst hq
      clear hRes hes
      go_enter Try.func8, Try.ntmps8
      go_wp2_with fail
      refine (contains_any s _ (by omega)).mono ?_
      rintro e w1 ⟨rfl, B⟩
      rw [hsp]
      go_wp2_with fail
      go_ret
      exact ⟨rfl, B⟩
    · have hq : Res = _ := hRes.symm.trans (quoted_of (plain_special hsp))
      clear hRes
      go_enter Try.func8, Try.ntmps8
      go_wp2_with fail
      refine (contains_any s _ (by omega)).mono ?_
      rintro e w1 ⟨rfl, B⟩
      rw [hsp]
      clear hsp
      go_wp2_with fail
      refine name_callw ?_
      intro w2 hw2
      obtain ⟨g, hg⟩ : ∃ g, g = w1.heap.size := ⟨_, rfl⟩
      have x2 : Bx w2 g 9 onCells := by rw [hw2, hg]; exact Bx.new _ _ _
      have B2 : Below W.heap.size W w2 := by rw [hw2]; exact bnew B
      rw [← hg]
      clear hw2 hg
      refine (new_Replacer g _ x2).mono ?_
      rintro e w3 ⟨p, b, c, rfl, x3, hb1, hbp, hc, B3⟩
      go_wp2_with fail
      refine (rep_Replace p b c s _ x3 (by have := x3.lt; omega) (by omega) hc hs).mono ?_
      rintro e w4 ⟨rfl, B4⟩
      have B5 : Below W.heap.size W w4 := B4 _ _ (by have := B2.size; omega) (B2.trans (B3.mono B2.size))
      clear B B2 B3 B4 x2 x3 hc
      obtain ⟨l, hl⟩ : ∃ l, esc s.data.toList = l := ⟨_, rfl⟩
      rw [hl] at hq hes ⊢
      obtain ⟨R, hR⟩ : ∃ R : ByteArray, (⟨l.toArray⟩ : ByteArray) = R := ⟨_, rfl⟩
      have hRs : R.size = l.length := by rw [← hR]; exact List.size_toArray
      have hqq : Res = (⟨#[34]⟩ ++ R) ++ ⟨#[34]⟩ := by
        rw [hq, ← hR]
        exact bytes_two _
      subst hqq
      rw [hR]
      clear hl hR hq
      go_wp2_with fail
      go_ret
      exact ⟨rfl, B5⟩
end Go.Proofs.Ytojieeenbbgpdaa
