/- (*strings.Replacer).buildOnce under sync.Once. -/
import Derived.Test.YtojieeenbbgpdaaWdM
namespace Go.Proofs.Ytojieeenbbgpdaa
open Go.RowKit

theorem RepB.keep {B B' G k : Nat} {w w' : World} {C : Array Value} (h : RepB B G w k C) (hb : ∀ b, G ≤ b → b < w.heap.size → w'.heap[b]? = w.heap[b]?) : RepB B' G w' k C := by
  obtain ⟨h1, h2, h3, h4, h5⟩ := h
  refine ⟨?_, h2, h3, ?_, rv_keep h5 fun b hb1 hb2 => hb b (by omega) hb2⟩
  · unfold Bx; rw [hb _ (by omega) h1.lt]; exact h1
  · refine own_heap h4 (hb _ (Nat.le_refl _) ?_)
    have := h1.lt; omega
/-- The replacer's block once built: what Once leaves. -/
def OnceR (p : Nat) (n0 n1 : Int) (w : World) (e : Ending) (w' : World) : Prop := ∃ G C, w.heap.size ≤ G ∧ e = .returned (.tuple #[]) ∧ Bx w' p 54 #[.int .u32 n0, .int .i32 n1, .int .u32 0, .iface 86 (.pointer (some ⟨G + 1, 0, none⟩)), .slice none 0 0] ∧ RepB 0 G w' 3 C ∧ ∀ B0 W0, B0 ≤ p → Below B0 W0 w → Below B0 W0 w'

set_option maxRecDepth 100000 in
set_option maxHeartbeats 4000000 in
theorem build_once (p b c : Nat) (w : World) (x : Bx w p 54 #[.int .u32 0, .int .i32 1, .int .u32 0, .nilIface, .slice (some ⟨b, 0, none⟩) 6 c]) (hb : b < w.heap.size) (hc : ∀ j v, onCells.toList[j]? = some v → w.cell? ⟨b, j, none⟩ = some v) :
    Calls Try.prog 18 #[.pointer (some ⟨p, 0, none⟩)] w fun e w' => OnceR p 0 1 w e w' := by
  go_enter Try.func18, Try.ntmps18
  go_wp2_with fail
  refine (replacer_build p b c _ _ _ w x hb hc).mono ?_
  rintro e w1 ⟨G, C, hG, rfl, hR, hB⟩
  have x1 := x.keep hB
  obtain ⟨q1, f1, l1⟩ := x1.all
  have hpG : p < G := Nat.lt_of_lt_of_le x.lt hG
  go_wp2_with fail
  go_end0
  refine ⟨G, C, hG, rfl, (x1.set 3 _).set 4 _, hR.keep fun b hb1 hb2 => ?_, fun B0 W0 h0 h1 => ?_⟩
  · rw [Below.heap_setCell _ _ _ _ (by dsimp only; omega), Below.heap_setCell _ _ _ _ (by dsimp only; omega)]
  · exact ((h1.trans (hB.mono (Nat.le_of_lt (Nat.lt_of_le_of_lt h0 x.lt)))).setCell (p := ⟨p, 3, none⟩) h0 _).setCell (p := ⟨p, 4, none⟩) h0 _

theorem bool_load0 (a : Addr) (w : World) (h : w.cell? a = some (.int .u32 0)) : Calls Try.prog 25 #[.pointer (some a)] w fun e w' => e = .returned (.bool false) ∧ w' = w := by
  have hl := run_call_load (P := Try.prog) Try.func33 (by kernel_rfl) (by kernel_rfl) (by kernel_rfl) .u32 (by kernel_rfl) h
  go_enter Try.func25, Try.ntmps25
  go_wp2_with fail
  go_ret
  exact ⟨rfl, rfl⟩

set_option maxRecDepth 100000 in
set_option maxHeartbeats 4000000 in
theorem once_slow (p b c : Nat) (W : World) (x : Bx W p 54 #[.int .u32 0, .int .i32 0, .int .u32 0, .nilIface, .slice (some ⟨b, 0, none⟩) 6 c]) (hb : b < W.heap.size) (hbp : b ≠ p) (hc : ∀ j v, onCells.toList[j]? = some v → W.cell? ⟨b, j, none⟩ = some v) :
    Calls Try.prog 26 #[.pointer (some ⟨p, 0, none⟩), .func (.func 18) #[.pointer (some ⟨p, 0, none⟩)] #[]] W fun e w' => OnceR p 1 0 W e w' := by
  obtain ⟨q0, f0, l0⟩ := x.all
  have x1 := x.set 1 (.int .i32 1)
  obtain ⟨q1, f1, l1⟩ := x1.all
  have hnot : ∀ (x : Bool) (w : World), (Op.unary .not (.bool x)).run Try.prog w = .ok (.bool (!x)) w := fun _ _ => rfl
  go_enter_defers Try.func26, Try.ntmps26
  have hb1 : b < (W.setCell ⟨p, 1, none⟩ (.int .i32 1)).heap.size := by simpa using hb
  have hc1 : ∀ j v, onCells.toList[j]? = some v → (W.setCell ⟨p, 1, none⟩ (.int .i32 1)).cell? ⟨b, j, none⟩ = some v := fun j v hv => (World.cell?_setCell_other _ ⟨p, 1, none⟩ ⟨b, j, none⟩ _ (fun h => hbp (congrArg Addr.block h).symm)).trans (hc j v hv)
  go_wp2_with (first | (go_at_call 34; refine (lock_free ⟨p, 1, none⟩ _ (q0 1) (f0 1)).mono ?_; rintro e w' ⟨rfl, rfl⟩) | (go_at_call 25; refine (bool_load0 _ _ (q1 0)).mono ?_; rintro e w' ⟨rfl, rfl⟩))
  refine (build_once p b c _ x1 hb1 hc1).mono ?_
  rintro e w1 ⟨G, C, hG, rfl, x2, hR, hB⟩
  go_wp2_with fail
  have x3 := Bx.set (w := w1.drew) (show Bx w1.drew p _ _ from x2) 0 (.int .u32 1)
  have x4 := x3.set 1 (.int .i32 0)
  obtain ⟨q2, f2, l2⟩ := x2.all
  obtain ⟨q3, f3, l3⟩ := x3.all
  have hpG : p < G := Nat.lt_of_lt_of_le x1.lt hG
  refine leaves_cons (f := 36) (args := #[.pointer (some ⟨p, 0, none⟩), .bool true]) (by simp) (by simp [go_sem]) ?_
  refine (store_deferred ⟨p, 0, none⟩ (.int .u32 0) .returning _ (q2 0) (f2 0)).mono ?_
  rintro e u' w'' ⟨rfl, rfl, rfl⟩
  refine leaves_cons (f := 35) (args := #[.pointer (some ⟨p, 1, none⟩)]) (by simp [settle]) (by simp [go_sem]) ?_
  refine (unlock_deferred ⟨p, 1, none⟩ _ _ (q3 1) (f3 1)).mono ?_
  rintro e u' w'' ⟨rfl, rfl, rfl⟩
  simp only [Leaves, settle, results, Try.results26]
  have hfin : OnceR p 1 0 W (.returned (.tuple #[])) ((w1.drew.setCell ⟨p, 0, none⟩ (.int .u32 1)).setCell ⟨p, 1, none⟩ (.int .i32 0)) := by
    refine ⟨G, C, Nat.le_trans (by simp) hG, rfl, x4, hR.keep fun b hb1 hb2 => ?_, fun B0 W0 h0 h1 => ?_⟩
    · rw [Below.heap_setCell _ _ _ _ (by dsimp only; omega), Below.heap_setCell _ _ _ _ (by dsimp only; omega)]; rfl
    · exact ((below_drewN (hB B0 W0 h0 (h1.setCell (p := ⟨p, 1, none⟩) h0 _)) 1).setCell (p := ⟨p, 0, none⟩) h0 _).setCell (p := ⟨p, 1, none⟩) h0 _
  trace_state
  simpa using hfin

set_option maxRecDepth 100000 in
set_option maxHeartbeats 4000000 in
theorem once_do (p b c : Nat) (W : World) (x : Bx W p 54 #[.int .u32 0, .int .i32 0, .int .u32 0, .nilIface, .slice (some ⟨b, 0, none⟩) 6 c]) (hb : b < W.heap.size) (hbp : b ≠ p) (hc : ∀ j v, onCells.toList[j]? = some v → W.cell? ⟨b, j, none⟩ = some v) :
    Calls Try.prog 17 #[.pointer (some ⟨p, 0, none⟩), .func (.func 18) #[.pointer (some ⟨p, 0, none⟩)] #[]] W fun e w' => OnceR p 1 0 W e w' := by
  obtain ⟨q0, f0, l0⟩ := x.all
  have hnot : ∀ (x : Bool) (w : World), (Op.unary .not (.bool x)).run Try.prog w = .ok (.bool (!x)) w := fun _ _ => rfl
  go_enter Try.func17, Try.ntmps17
  go_wp2_with (go_at_call 25; refine (bool_load0 _ _ (q0 0)).mono ?_; rintro e w' ⟨rfl, rfl⟩)
  refine (once_slow p b c _ x hb hbp hc).mono ?_
  rintro e w1 ⟨G, C, hG, rfl, x2, hR, hB⟩
  go_wp2_with fail
  go_end0
  exact ⟨G, C, hG, rfl, x2, hR, hB⟩
end Go.Proofs.Ytojieeenbbgpdaa
