/- Rows of singles in memory: a row that a call has made, a slice that came in. -/
import Derived.StillTailTactics
import Derived.Deep.QuietTactic
import Derived.BigQuiet
import Derived.WalkKit
import Derived.Test.YticekgnmiaidjaaGreatDoorRg
import Derived.Deep.DeepCutAuto
import Derived.Deep.DeepFit
import Derived.Lib.Hide
namespace Go.Proofs.YticekgnmiaidjaaGreatDoor

section
open Go.RowKit
section
variable {P : Program} {ops : Array Oper} {md : Region.Mode} {C : World → Prop}

end

/-- The class of worlds that are as w0 below block B. -/
def BW (B : Nat) (w0 : World) : Type := { w' : World // Below B w0 w' }
def BW.w {B : Nat} {w0 : World} (z : BW B w0) : World := z.1
theorem BW.below {B : Nat} {w0 : World} (z : BW B w0) : Below B w0 z.w := z.2
@[go_sem] theorem BW.cell {B : Nat} {w0 : World} (z : BW B w0) (b o : Nat) (h : b < B) : z.w.cell? ⟨b, o, none⟩ = w0.cell? ⟨b, o, none⟩ := z.2.cell (p := ⟨b, o, none⟩) h
@[go_sem] theorem BW.frozen {B : Nat} {w0 : World} (z : BW B w0) (b o : Nat) (h : b < B) : z.w.frozen? ⟨b, o, none⟩ = w0.frozen? ⟨b, o, none⟩ := z.2.frozen (p := ⟨b, o, none⟩) h
def BW.start (w0 : World) (B : Nat) : BW B w0 := ⟨w0.drew, (Below.refl _ _).drew⟩
instance BW.some (B : Nat) (w0 : World) : Nonempty (BW B w0) := ⟨BW.start w0 B⟩
/-- A call inside such a region: its contract gives one value, and keeps what was there. -/
theorem BW.call {P : Program} {f : FuncId} {args : Array Value} {B : Nat} {w0 : World} (hB : B ≤ w0.heap.size) (z : BW B w0) {v : Value}
    (h : Calls P f args z.w fun e w' => e = .returned v ∧ Below z.w.heap.size z.w w') : Calls P f args z.w fun e w'' => e = .returned v ∧ ∃ z' : BW B w0, w'' = z'.w :=
  h.mono fun _ w'' ⟨he, hb⟩ => ⟨he, ⟨⟨w'', z.2.trans (hb.mono (Nat.le_trans hB z.2.size))⟩, rfl⟩⟩
end

section
open Go.RowKit

/-- Block g holds just the singles xs. -/
def Row (w : World) (g n : Nat) (xs : List Nat) : Prop :=
  xs.length = n ∧ ∃ cur : Array Value, w.heap[g]? = some (.cells cur 23 (0, 0)) ∧ cur.toList = xs.map (Value.float .f32)
/-- From cell o of block b on stand the singles xs. -/
def Rd (w : World) (b o : Nat) (xs : List Nat) : Prop := b < w.heap.size ∧ ∀ k, k < xs.length → w.cell? ⟨b, o + k, none⟩ = some (.float .f32 (xs.getD k 0))

theorem Row.len {w : World} {g n : Nat} {xs : List Nat} (h : Row w g n xs) : xs.length = n := h.1
theorem Row.lt {w : World} {g n : Nat} {xs : List Nat} (h : Row w g n xs) : g < w.heap.size := by
  obtain ⟨_, cur, h1, _⟩ := h
  exact (Array.getElem?_eq_some_iff.1 h1).1
theorem Row.cell {w : World} {g n : Nat} {xs : List Nat} (h : Row w g n xs) (k : Nat) (hk : k < n) : w.cell? ⟨g, k, none⟩ = some (.float .f32 (xs.getD k 0)) := by
  obtain ⟨hl, cur, h1, h2⟩ := h
  rw [cell_of_row w g k cur _ (0, 0) h1, ← Array.getElem?_toList, h2]
  subst hl
  simp [hk]
theorem Row.frozen {w : World} {g n : Nat} {xs : List Nat} (h : Row w g n xs) (k : Nat) : w.frozen? ⟨g, k, none⟩ = false := by
  obtain ⟨hl, cur, h1, h2⟩ := h
  exact frozen_of_row w g k cur _ h1
theorem Row.below {B : Nat} {w w' : World} {g n : Nat} {xs : List Nat} (h : Row w g n xs) (hb : Below B w w') (hg : g < B) : Row w' g n xs := by
  obtain ⟨hl, cur, h1, h2⟩ := h
  exact ⟨hl, cur, by rw [hb.block g hg]; exact h1, h2⟩
theorem Row.keep {w w' : World} {g n : Nat} {xs : List Nat} (h : Row w g n xs) (hb : Below w.heap.size w w') : Row w' g n xs := h.below hb h.lt
theorem Row.other {w : World} {g n : Nat} {xs : List Nat} (h : Row w g n xs) (a : Addr) (v : Value) (ha : a.block ≠ g) : Row (w.setCell a v) g n xs := by
  obtain ⟨hl, cur, h1, h2⟩ := h
  exact ⟨hl, cur, by rw [Below.heap_setCell _ _ _ _ (by omega)]; exact h1, h2⟩
theorem Row.alloc {w : World} {g n : Nat} {xs : List Nat} (h : Row w g n xs) (ob : Obj) : Row (w.alloc ob) g n xs := by
  have hl := h.lt
  obtain ⟨hl, cur, h1, h2⟩ := h
  exact ⟨hl, cur, by rw [Below.heap_alloc _ _ _ (by assumption)]; exact h1, h2⟩
theorem Row.drewN {w : World} {g n : Nat} {xs : List Nat} (h : Row w g n xs) (m : Nat) : Row (w.drewN m) g n xs := h
theorem Row.rd {w : World} {g n : Nat} {xs : List Nat} (h : Row w g n xs) : Rd w g 0 xs :=
  ⟨h.lt, fun k hk => by rw [Nat.zero_add]; exact h.cell k (by have := h.len; omega)⟩

theorem Rd.lt {w : World} {b o : Nat} {xs : List Nat} (h : Rd w b o xs) : b < w.heap.size := h.1
theorem Rd.cell {w : World} {b o : Nat} {xs : List Nat} (h : Rd w b o xs) (k : Nat) (hk : k < xs.length) : w.cell? ⟨b, o + k, none⟩ = some (.float .f32 (xs.getD k 0)) := h.2 k hk
theorem Rd.cell0 {w : World} {b : Nat} {xs : List Nat} (h : Rd w b 0 xs) (k : Nat) (hk : k < xs.length) : w.cell? ⟨b, k, none⟩ = some (.float .f32 (xs.getD k 0)) := by
  have := h.2 k hk
  rwa [Nat.zero_add] at this
theorem Rd.below {B : Nat} {w w' : World} {b o : Nat} {xs : List Nat} (h : Rd w b o xs) (hb : Below B w w') (hg : b < B) : Rd w' b o xs :=
  ⟨Nat.lt_of_lt_of_le h.1 hb.size, fun k hk => by rw [hb.cell (p := ⟨b, o + k, none⟩) hg]; exact h.2 k hk⟩
theorem Rd.keep {w w' : World} {b o : Nat} {xs : List Nat} (h : Rd w b o xs) (hb : Below w.heap.size w w') : Rd w' b o xs := h.below hb h.1
theorem Rd.alloc {w : World} {b o : Nat} {xs : List Nat} (h : Rd w b o xs) (ob : Obj) : Rd (w.alloc ob) b o xs := h.keep ((Below.refl _ _).alloc (Nat.le_refl _) ob)

/-- A slice value that reads as the singles xs. -/
def Sl (w : World) (v : Value) (xs : List Nat) : Prop :=
  (∃ b o c, v = .slice (some ⟨b, o, none⟩) xs.length c ∧ xs ≠ [] ∧ Rd w b o xs) ∨ (xs = [] ∧ ∃ a c, v = .slice a 0 c)
theorem Sl.keep {w w' : World} {v : Value} {xs : List Nat} (h : Sl w v xs) (hb : Below w.heap.size w w') : Sl w' v xs := by
  rcases h with ⟨b, o, c, h1, h2, h3⟩ | h
  · exact .inl ⟨b, o, c, h1, h2, h3.keep hb⟩
  · exact .inr h
theorem Row.sl {w : World} {g n : Nat} {xs : List Nat} (h : Row w g n xs) (hn : 0 < n) (c : Nat) : Sl w (.slice (some ⟨g, 0, none⟩) n c) xs :=
  .inl ⟨g, 0, c, by rw [h.len], by intro e; have := h.len; simp [e] at this; omega, h.rd⟩

theorem bnew {W w0 : World} {ob : Obj} (h : Below W.heap.size W w0) : Below W.heap.size W (w0.alloc ob) := h.alloc h.size ob
theorem bcall {W w0 w1 : World} (h : Below W.heap.size W w0) (hb : Below w0.heap.size w0 w1) : Below W.heap.size W w1 := h.trans (hb.mono h.size)
theorem bput {W w0 : World} {b o : Nat} {v : Value} (hb : W.heap.size ≤ b) (h : Below W.heap.size W w0) : Below W.heap.size W (w0.setCell ⟨b, o, none⟩ v) := h.setCell (p := ⟨b, o, none⟩) hb v
theorem bdrew {W w0 : World} {m : Nat} (h : Below W.heap.size W w0) : Below W.heap.size W (w0.drewN m) := below_drewN h m
theorem quiet_same {P : Program} {f : FuncId} {args : Array Value} {w : World} {n : Nat} {v : Value}
    (h : Calls P f args (w.drewN n) fun e w' => e = .returned v ∧ w.drewN n = w') : Calls P f args (w.drewN n) fun e w'' => e = .returned v ∧ ∃ m, w'' = w.drewN m :=
  h.mono fun _ _ ⟨he, hm⟩ => ⟨he, n, hm.symm⟩

/-- Block b holds just these cells. -/
def Bx (w : World) (b : Nat) (T : TypeId) (cs : Array Value) : Prop := w.heap[b]? = some (.cells cs T (0, 0))
theorem Bx.new (w : World) (T : TypeId) (cs : Array Value) : Bx (w.alloc (.cells cs T)) w.heap.size T cs := heap_alloc_new w _
theorem Bx.at {w : World} {T : TypeId} {cs : Array Value} (k : Nat) (hk : w.heap.size = k) : Bx (w.alloc (.cells cs T)) k T cs := by subst hk; exact heap_alloc_new w _
theorem Bx.lt {w : World} {b : Nat} {T : TypeId} {cs : Array Value} (h : Bx w b T cs) : b < w.heap.size := (Array.getElem?_eq_some_iff.1 h).1
theorem Bx.alloc {w : World} {b : Nat} {T : TypeId} {cs : Array Value} (h : Bx w b T cs) (ob : Obj) : Bx (w.alloc ob) b T cs := by
  unfold Bx; rw [Below.heap_alloc _ _ _ h.lt]; exact h
theorem Bx.below {B : Nat} {w w' : World} {b : Nat} {T : TypeId} {cs : Array Value} (h : Bx w b T cs) (hb : Below B w w') (hlt : b < B) : Bx w' b T cs := by
  unfold Bx; rw [hb.block b hlt]; exact h
theorem Bx.keep {w w' : World} {b : Nat} {T : TypeId} {cs : Array Value} (h : Bx w b T cs) (hb : Below w.heap.size w w') : Bx w' b T cs := h.below hb h.lt
theorem Bx.drewN {w : World} {b : Nat} {T : TypeId} {cs : Array Value} (h : Bx w b T cs) (m : Nat) : Bx (w.drewN m) b T cs := h
theorem Bx.other {w : World} {b : Nat} {T : TypeId} {cs : Array Value} (h : Bx w b T cs) (a : Addr) (v : Value) (ha : b ≠ a.block) : Bx (w.setCell a v) b T cs := by
  unfold Bx; rw [Below.heap_setCell _ _ _ _ ha]; exact h
theorem Bx.set {w : World} {b : Nat} {T : TypeId} {cs : Array Value} (h : Bx w b T cs) (i : Nat) (v : Value) : Bx (w.setCell ⟨b, i, none⟩ v) b T (cs.setIfInBounds i v) := heap_setCell_same w b i cs _ _ h
theorem Bx.all {w : World} {b : Nat} {T : TypeId} {cs : Array Value} (h : Bx w b T cs) :
    (∀ o, w.cell? ⟨b, o, none⟩ = cs[o]?) ∧ (∀ o, w.frozen? ⟨b, o, none⟩ = false) ∧ b < w.heap.size :=
  ⟨fun o => cell_of_row w b o cs _ (0, 0) h, fun o => frozen_of_row w b o cs _ h, h.lt⟩

/-- Only block b has turned. -/
structure Only (b : Nat) (w w' : World) : Prop where
  os : w'.os = w.os
  tape : w'.tape = w.tape
  output : w'.output = w.output
  size : w'.heap.size = w.heap.size
  block : ∀ k, k ≠ b → w'.heap[k]? = w.heap[k]?
theorem Only.refl (b : Nat) (w : World) : Only b w w := ⟨rfl, rfl, rfl, rfl, fun _ _ => rfl⟩
theorem Only.set {b : Nat} {w w' : World} (h : Only b w w') (o : Nat) (v : Value) : Only b w (w'.setCell ⟨b, o, none⟩ v) :=
  ⟨h.os, h.tape, h.output, by simp [World.setCell, h.size], fun k hk => by rw [Below.heap_setCell _ _ _ _ hk]; exact h.block k hk⟩
theorem Only.below {b B : Nat} {w w' : World} (h : Only b w w') (hB : B ≤ b) : Below B w w' := ⟨h.os, h.tape, h.output, Nat.le_of_eq h.size.symm, fun k hk => h.block k (by omega)⟩
theorem Only.bx {b k : Nat} {w w' : World} {T : TypeId} {cs : Array Value} (h : Only b w w') (hk : k ≠ b) (x : Bx w k T cs) : Bx w' k T cs := by
  unfold Bx; rw [h.block k hk]; exact x
theorem Only.row {b g n : Nat} {w w' : World} {xs : List Nat} (h : Only b w w') (hk : g ≠ b) (x : Row w g n xs) : Row w' g n xs := by
  obtain ⟨hl, cur, h1, h2⟩ := x
  exact ⟨hl, cur, by rw [h.block g hk]; exact h1, h2⟩
theorem Only.rd {b k o : Nat} {w w' : World} {xs : List Nat} (h : Only b w w') (hk : k ≠ b) (x : Rd w k o xs) : Rd w' k o xs :=
  ⟨by rw [h.size]; exact x.1, fun i hi => by rw [World.cell?_of_block (w := w) (a := ⟨k, o + i, none⟩) (h.block k hk)]; exact x.2 i hi⟩
theorem set5 {w : World} {b : Nat} {T : TypeId} {c0 c1 c2 c3 c4 : Value} (x : Bx w b T #[c0, c1, c2, c3, c4]) (v0 v1 v2 v3 v4 : Value) :
    Bx (((((w.setCell ⟨b, 0, none⟩ v0).setCell ⟨b, 1, none⟩ v1).setCell ⟨b, 2, none⟩ v2).setCell ⟨b, 3, none⟩ v3).setCell ⟨b, 4, none⟩ v4) b T #[v0, v1, v2, v3, v4] ∧
    Only b w (((((w.setCell ⟨b, 0, none⟩ v0).setCell ⟨b, 1, none⟩ v1).setCell ⟨b, 2, none⟩ v2).setCell ⟨b, 3, none⟩ v3).setCell ⟨b, 4, none⟩ v4) :=
  ⟨((((x.set 0 v0).set 1 v1).set 2 v2).set 3 v3).set 4 v4, (((((Only.refl b w).set 0 v0).set 1 v1).set 2 v2).set 3 v3).set 4 v4⟩
theorem set4 {w : World} {b : Nat} {T : TypeId} {c0 c1 c2 c3 : Value} (x : Bx w b T #[c0, c1, c2, c3]) (v0 v1 v2 v3 : Value) :
    Bx ((((w.setCell ⟨b, 0, none⟩ v0).setCell ⟨b, 1, none⟩ v1).setCell ⟨b, 2, none⟩ v2).setCell ⟨b, 3, none⟩ v3) b T #[v0, v1, v2, v3] ∧
    Only b w ((((w.setCell ⟨b, 0, none⟩ v0).setCell ⟨b, 1, none⟩ v1).setCell ⟨b, 2, none⟩ v2).setCell ⟨b, 3, none⟩ v3) :=
  ⟨(((x.set 0 v0).set 1 v1).set 2 v2).set 3 v3, ((((Only.refl b w).set 0 v0).set 1 v1).set 2 v2).set 3 v3⟩
theorem name_world {P : Program} {k : Code} {Q : Exit → Act → World → Prop} {a : Act} {w0 : World} (h : ∀ wb, wb = w0 → k.wp P Q a wb) : k.wp P Q a w0 := h _ rfl

@[go_sem] theorem run_pixelAtSlice (w : World) (a : Addr) (c : Nat) : (Instr.arrayAt 25 (.slice (some a) 4 c)).run Tryz.prog w = .ok (.pointer (some a)) w := by kernel_rfl

theorem infoF : (Tryz.prog.info? 23).map (fun i => (i.zero, i.size, i.bytes)) = some (some (.float .f32 0), 1, 4) := by kernel_rfl

end
end Go.Proofs.YticekgnmiaidjaaGreatDoor
