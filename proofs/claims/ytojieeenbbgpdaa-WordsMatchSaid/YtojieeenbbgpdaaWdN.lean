/- strings.NewReplacer of the six strings. -/
import Derived.Test.YtojieeenbbgpdaaWdL
namespace Go.Proofs.Ytojieeenbbgpdaa
open Go.RowKit

def oldnew : List (List UInt8) := [[92], [92, 92], [34], [92, 34], [10], [92, 110]]
def onCells : Array Value := #[.string ⟨#[92]⟩, .string ⟨#[92, 92]⟩, .string ⟨#[34]⟩, .string ⟨#[92, 34]⟩, .string ⟨#[10]⟩, .string ⟨#[92, 110]⟩]

def NewR (W : World) (e : Ending) (w' : World) : Prop := ∃ p b c, e = .returned (.pointer (some ⟨p, 0, none⟩)) ∧ Bx w' p 54 #[.int .u32 0, .int .i32 0, .int .u32 0, .nilIface, .slice (some ⟨b, 0, none⟩) 6 c] ∧ W.heap.size ≤ b ∧ b < p ∧ (∀ j v, onCells.toList[j]? = some v → w'.cell? ⟨b, j, none⟩ = some v) ∧ Below W.heap.size W w'

set_option maxRecDepth 100000 in
set_option maxHeartbeats 4000000 in
theorem new_Replacer (g : Nat) (W : World) (x : Bx W g 9 onCells) : Calls Try.prog 10 #[.slice (some ⟨g, 0, none⟩) 6 6] W fun e w' => NewR W e w' := by
  obtain ⟨i0, hi, hz0, hzz, hz2⟩ := info_parts infoS
  have hml : maxLen = 9223372036854775807 := rfl
  go_enter Try.func10, Try.ntmps10
  go_wp2_with (at_builtin; refine wpList_append_own _ rfl _ _ 22 rfl W.heap.size 9 i0 (.string ⟨#[]⟩) 1 16 Try.underlying22 hi hz0 hzz hz2 rfl (by decide) _ 0 [] rfl (World.ownsRow_nil _ _ _ _) ⟨g, 0, none⟩ 6 6 onCells.toList rfl rfl ?a1 ?a2 ?a3 ?a4 ?a5 ?_)
  case a1 =>
    intro j u hj
    rw [show ((⟨g, 0, none⟩ : Addr).add j) = ⟨g, j, none⟩ by simp [Addr.add]; intro e; exact e.symm, x.all.1 j]
    simpa using hj
  case a2 => decide
  case a3 => omega
  case a4 => omega
  case a5 => exact Nat.le_refl _
  intro v w1 hown hgrow hnil
  have hO : OutV W.heap.size w1 9 v onCells.toList := hown
  have hb : Below W.heap.size W w1 := (Below.refl _ _).grown hgrow (Nat.le_refl _) (fun k hk => by cases hk)
  rcases hO.cells with ⟨h0, _⟩ | ⟨b, c, rfl, h1, h2, h3⟩
  · cases h0
  clear hown hgrow hnil hO
  have hs : onCells.toList.length = 6 := rfl
  rw [hs]
  go_wp2_with fail
  go_ret
  exact ⟨w1.heap.size, b, c, rfl, Bx.new _ _ _, h1, h2, fun j v hv => (World.cell?_alloc_past _ _ _ h2).trans (h3 j trivial v hv), bnew hb⟩
end Go.Proofs.Ytojieeenbbgpdaa
