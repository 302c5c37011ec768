/- slices.Clone at events. -/
import Derived.Test.YtjicgbpnplmpbaaDoorEvt
import Derived.OwnWalk
namespace Go.Proofs.YtjicgbpnplmpbaaDoor
open Go.RowKit

def Ev.six (e : Ev) : List Value := [.string e.reel, .int .i64 e.kind, .int .i64 e.len, .int .i64 e.inn, .int .i64 e.out, .int .i64 e.pos]
def evCells (es : List Ev) : List Value := es.flatMap Ev.six
theorem evCells_length (es : List Ev) : (evCells es).length = es.length * 6 := by
  induction es with
  | nil => rfl
  | cons e r ih => rw [evCells, List.flatMap_cons, List.length_append, ← evCells, ih, List.length_cons]; simp [Ev.six]; omega
theorem evCells_get (es : List Ev) : ∀ (k r : Nat), k < es.length → r < 6 → (evCells es)[k * 6 + r]? = (es.getD k default).six[r]? := by
  induction es with
  | nil => intro k r h; simp at h
  | cons e t ih =>
    intro k r hk hr
    have hl : e.six.length = 6 := rfl
    rw [evCells, List.flatMap_cons, ← evCells]
    cases k with
    | zero => rw [List.getElem?_append_left (by rw [hl]; omega)]; simp
    | succ k =>
      rw [List.getElem?_append_right (by rw [hl]; omega), hl, show (k + 1) * 6 + r - 6 = k * 6 + r by omega, ih k r (by simpa using hk) hr]
      simp
theorem EvAt.six {w : World} {b i : Nat} {e : Ev} (h : EvAt w b i e) (r : Nat) (u : Value) (hr : e.six[r]? = some u) : w.cell? ⟨b, i + r, none⟩ = some u := by
  obtain ⟨q0, q1, q2, q3, q4, q5⟩ := h
  match r, hr with
  | 0, hr => cases hr; exact q0
  | 1, hr => cases hr; exact q1
  | 2, hr => cases hr; exact q2
  | 3, hr => cases hr; exact q3
  | 4, hr => cases hr; exact q4
  | 5, hr => cases hr; exact q5
  | n + 6, hr => simp [Ev.six] at hr

set_option maxRecDepth 100000 in
set_option maxHeartbeats 2000000 in
theorem slices_CloneE (b o c : Nat) (es : List Ev) (W : World) (hN : es.length ≤ 1000) (hat : ∀ k, k < es.length → EvAt W b (o + k * 6) (es.getD k default)) :
    Calls Tryd.prog 62 #[.slice (some ⟨b, o, none⟩) es.length c] W fun e w' => ∃ v', e = .returned v' ∧ w'.ownsRow W.heap.size 104 6 v' es.length (evCells es) ∧ Below W.heap.size W w' := by
  have hinfo : (Tryd.prog.info? 104).map (fun i => (i.zero, i.size, i.bytes)) = some (some (.agg #[.string ⟨#[]⟩, .int .i64 0, .int .i64 0, .int .i64 0, .int .i64 0, .int .i64 0]), 6, 56) := by kernel_rfl
  obtain ⟨i0, hi, hz0, hz1, hz2⟩ := info_parts hinfo
  have q22 : ∀ (w : World) (a : Option Addr) (n c n' c' : Nat), (binOp .eql 50 (.slice a n c) (.slice none n' c')).run Tryd.prog w = .ok (.bool a.isNone) w := fun w a n c n' c' => Lib.run_eql_slice_nil w _ _ a n c n' c' Tryd.underlying50
  have A := Lib.hid hat
  clear hat
  generalize hn : es.length = n at hN ⊢
  have Hn := Lib.hid hn
  clear hn
  go_enter Tryd.func62, Tryd.ntmps62
  go_wp2_with (at_builtin; refine wpList_append_own _ rfl _ _ 50 rfl W.heap.size 104 i0 (.agg #[.string ⟨#[]⟩, .int .i64 0, .int .i64 0, .int .i64 0, .int .i64 0, .int .i64 0]) 6 56 Tryd.underlying50 hi hz0 hz1 hz2 rfl (by decide) _ _ _ rfl (World.ownsRow_made W #[] 0 (Nat.le_refl _) (Nat.zero_le _) rfl) ⟨b, o, none⟩ n c (evCells es) rfl ?qc1 ?qc2 ?qc3 ?qc4 ?qc5 ?qc6 ?_)
  case qc1 => rw [evCells_length, Hn.out]
  case qc2 =>
    intro j u hj
    have hlt := (List.getElem?_eq_some_iff.1 hj).1
    rw [evCells_length] at hlt
    have hk : j / 6 < es.length := by omega
    have hr : j % 6 < 6 := by omega
    have hjj : j = j / 6 * 6 + j % 6 := by omega
    rw [hjj, evCells_get es _ _ hk hr] at hj
    rw [Addr.add_lit]
    refine Lib.cell?_alloc_some _ ?_
    have := (A.out _ hk).six _ _ hj
    rw [hjj, ← Nat.add_assoc]; exact this
  case qc3 =>
    intro u hu
    obtain ⟨e, _, he⟩ := List.mem_flatMap.1 hu
    simp only [Ev.six, List.mem_cons, List.mem_nil_iff, or_false] at he
    rcases he with rfl | rfl | rfl | rfl | rfl | rfl <;> rfl
  case qc4 => unfold maxLen; omega
  case qc5 => omega
  case qc6 => simp
  intro v' w1 hown hgrow hnil
  go_wp2
  go_ret
  refine ⟨v', rfl, by simpa using hown, ?_⟩
  exact ((Below.refl _ W).alloc (Nat.le_refl _) _).grown hgrow (by simp) (by intro k hk; simp [Value.ownBlock] at hk; omega)
end Go.Proofs.YtjicgbpnplmpbaaDoor
