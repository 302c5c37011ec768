/- matteOf: a matte with a region. -/
import Derived.Test.YtjicgbpnplmpbaaDoorMat
namespace Go.Proofs.YtjicgbpnplmpbaaDoor
open Go.RowKit

theorem Sl.form {w : World} {v : Value} {xs : List Nat} (h : Sl w v xs) : ∃ a n c, v = .slice a n c ∧ ((0 < n ∧ xs.length = n ∧ ∃ b o, a = some ⟨b, o, none⟩ ∧ Rd w b o xs) ∨ (n = 0 ∧ xs = [])) := by
  rcases h with ⟨b, o, c, rfl, hne, hrd⟩ | ⟨rfl, a, c, rfl⟩
  · exact ⟨_, _, _, rfl, .inl ⟨List.length_pos_iff.2 hne, rfl, b, o, rfl, hrd⟩⟩
  · exact ⟨_, _, _, rfl, .inr ⟨rfl, rfl⟩⟩

theorem Sl.some2 {w : World} {a : Option Addr} {n c : Nat} {xs : List Nat} (h : Sl w (.slice a n c) xs) (hn : 0 < n) : ∃ b o, a = some ⟨b, o, none⟩ ∧ xs.length = n ∧ Rd w b o xs := by
  rcases h with ⟨b, o, k, h1, _, h3⟩ | ⟨_, _, _, h1⟩
  · simp only [Value.slice.injEq] at h1
    obtain ⟨rfl, rfl, rfl⟩ := h1
    exact ⟨b, o, rfl, rfl, h3⟩
  · simp only [Value.slice.injEq] at h1
    omega

end Go.Proofs.YtjicgbpnplmpbaaDoor
