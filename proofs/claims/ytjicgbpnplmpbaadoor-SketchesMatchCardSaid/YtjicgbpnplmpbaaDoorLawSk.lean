/- SketchesMatch, walked. -/
import Derived.Test.YtjicgbpnplmpbaaDoorSkD
namespace Go.Proofs.YtjicgbpnplmpbaaDoor
open Go.RowKit

def skText (ns : List Int) (height : Int) : List UInt8 := if skErr ns height = 0 then textL ns height.toNat (Lib.maxOf ns) height.toNat else []

theorem sk_split (ns : List Int) (height : Int) : (ns.length = 0 ∧ skErr ns height = 10) ∨ (1024 < ns.length ∧ skErr ns height = 4) ∨ (0 < ns.length ∧ ns.length ≤ 1024 ∧ (height < 1 ∨ 64 < height) ∧ skErr ns height = 3) ∨
    (0 < ns.length ∧ ns.length ≤ 1024 ∧ 1 ≤ height ∧ height ≤ 64 ∧ ns.any badI = true ∧ skErr ns height = 3) ∨ (0 < ns.length ∧ ns.length ≤ 1024 ∧ 1 ≤ height ∧ height ≤ 64 ∧ ns.any badI = false ∧ skErr ns height = 0) := by
  unfold skErr
  by_cases h0 : ns.length = 0
  · exact .inl ⟨h0, by rw [if_pos h0]⟩
  · by_cases h1 : 1024 < ns.length
    · exact .inr (.inl ⟨h1, by rw [if_neg h0, if_pos h1]⟩)
    · by_cases h2 : height < 1 ∨ 64 < height
      · refine .inr (.inr (.inl ⟨by omega, by omega, h2, ?_⟩))
        rw [if_neg h0, if_neg h1, if_pos]
        simp
        omega
      · cases hb : ns.any badI
        · refine .inr (.inr (.inr (.inr ⟨by omega, by omega, by omega, by omega, rfl, ?_⟩)))
          rw [if_neg h0, if_neg h1, if_neg]
          simp
          omega
        · refine .inr (.inr (.inr (.inl ⟨by omega, by omega, by omega, by omega, rfl, ?_⟩)))
          rw [if_neg h0, if_neg h1, if_pos (by simp)]

theorem scope_Sketch (v : Value) (ns : List Int) (bel abv nan height : Int) (W : World) (hs : SlI W v ns) :
    Calls Tryd.prog 19 #[.agg #[v, .int .i64 bel, .int .i64 abv, .int .i64 nan], .int .i64 height] W fun e w' => e = .returned (.tuple #[.string ⟨(skText ns height).toArray⟩, .int .i64 (skErr ns height)]) ∧ Below W.heap.size W w' := by
  unfold skText
  rcases sk_split ns height with ⟨h0, he⟩ | ⟨h0, he⟩ | ⟨h0, h1, h2, he⟩ | ⟨h0, h1, h2, h3, h4, he⟩ | ⟨h0, h1, h2, h3, h4, he⟩
  · rcases hs with ⟨b, o, c, rfl, hne, _⟩ | ⟨rfl, a, c, rfl⟩
    · exact absurd (List.length_eq_zero_iff.1 h0) hne
    · rw [he]; exact scope_Sketch_0 a c bel abv nan height W
  · rcases hs with ⟨b, o, c, rfl, _, _, _⟩ | ⟨rfl, a, c, rfl⟩
    · rw [he]; exact scope_Sketch_4 _ _ c bel abv nan height W h0
    · simp at h0
  · rcases hs with ⟨b, o, c, rfl, _, _, _⟩ | ⟨rfl, a, c, rfl⟩
    · rw [he]; exact scope_Sketch_h _ _ c bel abv nan height W h0 h1 h2
    · simp at h0
  · rcases hs with ⟨b, o, c, rfl, _, hb, hrd⟩ | ⟨rfl, a, c, rfl⟩
    · rw [he]; exact scope_Sketch_b b o _ c ns bel abv nan height W rfl h0 h1 h2 h3 h4 hb hrd
    · simp at h0
  · rcases hs with ⟨b, o, c, rfl, _, hb, hrd⟩ | ⟨rfl, a, c, rfl⟩
    · rw [he, if_pos rfl]
      obtain ⟨h, rfl⟩ : ∃ h : Nat, height = h := ⟨height.toNat, by omega⟩
      exact scope_Sketch_ok b o _ c h ns bel abv nan W rfl h0 h1 (by omega) (by omega) h4 hb hrd
    · simp at h0
theorem ref_Sketch (v : Value) (ns : List Int) (bel abv nan height : Int) (W : World) (hs : SlI W v ns) :
    Calls Tryd.prog 20 #[.agg #[v, .int .i64 bel, .int .i64 abv, .int .i64 nan], .int .i64 height] W fun e w' => e = .returned (.tuple #[.string ⟨(skText ns height).toArray⟩, .int .i64 (skErr ns height)]) ∧ Below W.heap.size W w' := by
  unfold skText
  rcases sk_split ns height with ⟨h0, he⟩ | ⟨h0, he⟩ | ⟨h0, h1, h2, he⟩ | ⟨h0, h1, h2, h3, h4, he⟩ | ⟨h0, h1, h2, h3, h4, he⟩
  · rcases hs with ⟨b, o, c, rfl, hne, _⟩ | ⟨rfl, a, c, rfl⟩
    · exact absurd (List.length_eq_zero_iff.1 h0) hne
    · rw [he]; exact ref_Sketch_0 a c bel abv nan height W
  · rcases hs with ⟨b, o, c, rfl, _, _, _⟩ | ⟨rfl, a, c, rfl⟩
    · rw [he]; exact ref_Sketch_4 _ _ c bel abv nan height W h0
    · simp at h0
  · rcases hs with ⟨b, o, c, rfl, _, hb, hrd⟩ | ⟨rfl, a, c, rfl⟩
    · rw [he]; exact ref_Sketch_3 b o _ c ns bel abv nan height W rfl h0 h1 (.inl h2) hb hrd
    · simp at h0
  · rcases hs with ⟨b, o, c, rfl, _, hb, hrd⟩ | ⟨rfl, a, c, rfl⟩
    · rw [he]; exact ref_Sketch_3 b o _ c ns bel abv nan height W rfl h0 h1 (.inr h4) hb hrd
    · simp at h0
  · rcases hs with ⟨b, o, c, rfl, _, hb, hrd⟩ | ⟨rfl, a, c, rfl⟩
    · rw [he, if_pos rfl]
      obtain ⟨h, rfl⟩ : ∃ h : Nat, height = h := ⟨height.toNat, by omega⟩
      exact ref_Sketch_ok b o _ c h ns bel abv nan W rfl h0 h1 (by omega) (by omega) h4 hb hrd
    · simp at h0

set_option maxRecDepth 100000 in
set_option maxHeartbeats 2000000 in
theorem law_Sketches (v : Value) (ns : List Int) (bel abv nan height : Int) (W : World) (hs : SlI W v ns) :
    Calls Tryd.prog 4 #[.agg #[v, .int .i64 bel, .int .i64 abv, .int .i64 nan], .int .i64 height] W fun e w' => e = .returned (.bool true) ∧ Below W.heap.size W w' := by
  have hv1 : v.cells = #[v] := by rcases hs with ⟨b, o, c, rfl, _⟩ | ⟨_, a, c, rfl⟩ <;> rfl
  generalize hst : (⟨(skText ns height).toArray⟩ : ByteArray) = st
  have h1 := fun w (B : Below W.heap.size W w) => scope_Sketch v ns bel abv nan height w (hs.keep B)
  have h2 := fun w (B : Below W.heap.size W w) => ref_Sketch v ns bel abv nan height w (hs.keep B)
  rw [hst] at h1 h2
  generalize skErr ns height = k at h1 h2
  have hke : (k == k) = true := by simp
  have H1 := Lib.hid h1
  have H2 := Lib.hid h2
  clear h1 h2 hst hs
  go_enter Tryd.func4, Tryd.ntmps4
  go_upto_region 3 with (go_at_call 7; refine (law_landed _).mono ?_; rintro e w' ⟨rfl, rfl⟩)
  refine name_world ?_
  intro w0 hw0
  have x2 : Bx w0 W.heap.size 47 #[v, .int .i64 bel, .int .i64 abv, .int .i64 nan] := by rw [hw0]; exact Bx.new _ _ _
  have B : Below W.heap.size W w0 := by rw [hw0]; exact bnew (Below.refl _ W)
  clear hw0
  obtain ⟨q2, f2, l2⟩ := x2.all
  go_wp2_with fail
  refine (H1.out _ B).mono ?_
  rintro e w1 ⟨rfl, hb1⟩
  replace x2 := x2.keep hb1
  replace B := bcall B hb1
  clear hb1 q2 f2 l2
  obtain ⟨q2, f2, l2⟩ := x2.all
  go_wp2_with fail
  refine (H2.out _ B).mono ?_
  rintro e w2 ⟨rfl, hb2⟩
  replace B := bcall B hb2
  clear hb2 q2 f2 l2 x2
  go_wp2_with fail
  go_ret
  exact ⟨rfl, B⟩
end Go.Proofs.YtjicgbpnplmpbaaDoor
