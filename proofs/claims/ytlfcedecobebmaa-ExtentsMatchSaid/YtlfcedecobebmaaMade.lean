/- dyeref2.Made, for whatever closure. -/
import Derived.Test.YtlfcedecobebmaaPln
namespace Go.Proofs.Ytlfcedecobebmaa
open Go.RowKit

theorem own_below {w w' : World} {B : Nat} {e : TypeId} {s : Nat} {v : Value} {n : Nat} {xs : List Value} (h : w.ownsRow B e s v n xs) (hb : Below w.heap.size w w') : w'.ownsRow B e s v n xs := by
  refine ⟨h.1, ?_⟩
  rcases h.2 with h0 | ⟨g, cap, cur, e1, e2, e3, e4⟩
  · exact .inl h0
  · exact .inr ⟨g, cap, cur, e1, e2, (hb.block g (Array.getElem?_eq_some_iff.1 e3).1).trans e3, e4⟩
theorem own_set {w : World} {B b o : Nat} {e : TypeId} {s : Nat} {v u : Value} {n : Nat} {xs : List Value} (h : w.ownsRow B e s v n xs) (hb : b < B) : (w.setCell ⟨b, o, none⟩ u).ownsRow B e s v n xs := by
  refine ⟨h.1, ?_⟩
  rcases h.2 with h0 | ⟨g, cap, cur, e1, e2, e3, e4⟩
  · exact .inl h0
  · exact .inr ⟨g, cap, cur, e1, e2, by rw [Below.heap_setCell _ _ _ _ (by dsimp only; omega)]; exact e3, e4⟩
theorem own_form {w : World} {B : Nat} {e : TypeId} {s : Nat} {v : Value} {n : Nat} {xs : List Value} (h : w.ownsRow B e s v n xs) (hn : 0 < n) : ∃ g cap, v = .slice (some ⟨g, 0, none⟩) n cap ∧ B ≤ g ∧ g < w.heap.size ∧ n ≤ cap := by
  rcases h.2 with ⟨_, h0⟩ | ⟨g, cap, cur, hv, hb, hg, hc, _⟩
  · omega
  · exact ⟨g, cap, hv, hb, (Array.getElem?_eq_some_iff.1 hg).1, hc⟩
theorem own_mono {w : World} {B B' : Nat} {e : TypeId} {s : Nat} {v : Value} {n : Nat} {xs : List Value} (h : w.ownsRow B e s v n xs) (hb : B' ≤ B) : w.ownsRow B' e s v n xs := by
  refine ⟨h.1, ?_⟩
  rcases h.2 with h0 | ⟨g, cap, cur, e1, e2, e3⟩
  · exact .inl h0
  · exact .inr ⟨g, cap, cur, e1, by omega, e3⟩
theorem rd_of_ow {w : World} {B g n c : Nat} {xs : List Nat} (h : Ow w B (.slice (some ⟨g, 0, none⟩) n c) xs) (hl : xs.length = n) : Rd w g 0 xs := by
  rcases h.2 with ⟨h0, _⟩ | ⟨g', cap, cur, hv, hb, hg, hnc, hcm, hcs, htake⟩
  · cases h0
  · obtain ⟨rfl, _, _⟩ : g = g' ∧ n = xs.length ∧ c = cap := by simpa using hv
    refine ⟨(Array.getElem?_eq_some_iff.1 hg).1, fun k hk => ?_⟩
    rw [Nat.zero_add, cell_of_row w g k cur _ (0, 0) hg]
    have h1 : (cur.toList.take (xs.length * 1))[k]? = (xs.map (Value.float .f32))[k]? := by rw [htake]
    rw [List.getElem?_take, if_pos (by omega)] at h1
    simpa [hk] using h1
theorem nm_call {P : Program} {f : FuncId} {args : Array Value} {w0 : World} {Q : Ending → World → Prop} (h : ∀ wb, wb = w0 → Calls P f args wb Q) : Calls P f args w0 Q := h _ rfl
/-- A block that is not the row's stays. -/
theorem Bx.grown {w w' : World} {b : Nat} {T : TypeId} {cs : Array Value} {row : Option Nat} (h : Bx w b T cs) (hg : w.grownBy w' row) (hne : row ≠ some b) : Bx w' b T cs := by
  unfold Bx
  rw [hg.block b h.lt (fun e => hne e.symm)]
  exact h

/-- A closure that makes pixel j * w + i of a region. -/
structure Makes (W : World) (cf : FuncId) (cap : Array Value) (x y : Int) (w h : Nat) (P : Nat → Nat → Nat) : Prop where
  enter : ∀ (args : Array Value) (u : World), (callFunc cf args).run Try.prog u = .ok (.enter cf args) u
  makes : ∀ (i j : Nat) (u : World), i < w → j < h → Below W.heap.size W u → Calls Try.prog cf (#[.int .i64 (x + i), .int .i64 (y + j)] ++ cap) u fun e u' =>
    e = .returned (.agg #[.float .f32 (P (j * w + i) 0), .float .f32 (P (j * w + i) 1), .float .f32 (P (j * w + i) 2), .float .f32 (P (j * w + i) 3)]) ∧ Below u.heap.size u u'
theorem Makes.keep {W W' : World} {cf : FuncId} {cap : Array Value} {x y : Int} {w h : Nat} {P : Nat → Nat → Nat} (m : Makes W cf cap x y w h P) (hb : Below W.heap.size W W') : Makes W' cf cap x y w h P :=
  ⟨m.enter, fun i j u hi hj hu => m.makes i j u hi hj (hb.trans (hu.mono hb.size))⟩

def madeL (P : Nat → Nat → Nat) (n : Nat) : List Nat := (List.range n).map fun k => canon (P (k / 4) (k % 4))
theorem madeL_len (P : Nat → Nat → Nat) (n : Nat) : (madeL P n).length = n := by simp [madeL]
theorem madeL_succ (P : Nat → Nat → Nat) (p c : Nat) (hc : c < 4) : madeL P (4 * p + c + 1) = madeL P (4 * p + c) ++ [canon (P p c)] := by
  unfold madeL
  rw [List.range_succ, List.map_append]
  have h1 : (4 * p + c) / 4 = p := by omega
  have h2 : (4 * p + c) % 4 = c := by omega
  simp [h1, h2]

/-- An array of four singles, by a number. -/
theorem run_pix_index (F : Nat → Nat) (k : Nat) (hk : k < 4) (w : World) :
    (Instr.index 68 (.agg #[.float .f32 (F 0), .float .f32 (F 1), .float .f32 (F 2), .float .f32 (F 3)]) (.int .i64 (k : Int))).run Try.prog w = .ok (.float .f32 (F k)) w := by
  have h0 : (Instr.index 68 (.agg #[.float .f32 (F 0), .float .f32 (F 1), .float .f32 (F 2), .float .f32 (F 3)]) (.int .i64 0)).run Try.prog w = .ok (.float .f32 (F 0)) w := by kernel_rfl
  have h1 : (Instr.index 68 (.agg #[.float .f32 (F 0), .float .f32 (F 1), .float .f32 (F 2), .float .f32 (F 3)]) (.int .i64 1)).run Try.prog w = .ok (.float .f32 (F 1)) w := by kernel_rfl
  have h2 : (Instr.index 68 (.agg #[.float .f32 (F 0), .float .f32 (F 1), .float .f32 (F 2), .float .f32 (F 3)]) (.int .i64 2)).run Try.prog w = .ok (.float .f32 (F 2)) w := by kernel_rfl
  have h3 : (Instr.index 68 (.agg #[.float .f32 (F 0), .float .f32 (F 1), .float .f32 (F 2), .float .f32 (F 3)]) (.int .i64 3)).run Try.prog w = .ok (.float .f32 (F 3)) w := by kernel_rfl
  match k, hk with
  | 0, _ => exact h0
  | 1, _ => exact h1
  | 2, _ => exact h2
  | 3, _ => exact h3

/-- What Made has after n singles. -/
def MadeInv (W : World) (x y w h : Int) (P : Nat → Nat → Nat) (n : Nat) (wr : World) : Prop :=
  ∃ v, Bx wr W.heap.size 23 #[.int .i64 x, .int .i64 y, .int .i64 w, .int .i64 h] ∧ Bx wr (W.heap.size + 1) 26 #[.int .i64 0, .int .i64 0, .int .i64 0, .int .i64 0, .slice none 0 0] ∧
    Bx wr (W.heap.size + 1 + 1) 26 #[.int .i64 x, .int .i64 y, .int .i64 w, .int .i64 h, v] ∧ wr.ownsRow (W.heap.size + 3) 29 1 v n ((madeL P n).map (Value.float .f32)) ∧ Below W.heap.size W wr
theorem MadeInv.keep {W wr wr' : World} {x y w h : Int} {P : Nat → Nat → Nat} {n : Nat} (m : MadeInv W x y w h P n wr) (hb : Below wr.heap.size wr wr') : MadeInv W x y w h P n wr' := by
  obtain ⟨v, h1, h2, h3, h4, h5⟩ := m
  exact ⟨v, h1.keep hb, h2.keep hb, h3.keep hb, own_below h4 hb, h5.trans (hb.mono h5.size)⟩

end Go.Proofs.Ytlfcedecobebmaa
