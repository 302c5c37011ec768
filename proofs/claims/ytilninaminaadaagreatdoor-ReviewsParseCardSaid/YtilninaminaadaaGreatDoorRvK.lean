/- Two rows that grow in one statement, and are stored behind one pointer: what holds at each moment, whatever the order. -/
import Derived.Test.YtilninaminaadaaGreatDoorRvI
import Derived.Test.YtilninaminaadaaGreatDoorInv
namespace Go.Proofs.YtilninaminaadaaGreatDoor
open Go.RowKit

theorem infoStr : (Tryz.prog.info? 9).map (fun i => (i.zero, i.size, i.bytes)) = some (some (.string ⟨#[]⟩), 1, 16) := by kernel_rfl
theorem infoInt : (Tryz.prog.info? 3).map (fun i => (i.zero, i.size, i.bytes)) = some (some (.int .i64 0), 1, 8) := by kernel_rfl
theorem one_of (u0 : Value) (h : u0.oneCell' = true) : ∀ u ∈ [u0], u.oneCell' = true := by
  intro u hu
  obtain rfl := List.mem_singleton.1 hu
  exact h
/-- One of the rows: b1: its new element lies ready (u1); b2: it has grown (u2). -/
structure RW (w5 w : World) (T : TypeId) (v : Value) (n : Nat) (c : Nat → Nat → Value) (new : Value) (b1 b2 : Bool) (u1 u2 : Value) : Prop where
  old : b2 = false → RowN w T 1 v n c
  mid : b1 = true → b2 = false → ∃ g, u1 = .slice (some ⟨g, 0, none⟩) 1 1 ∧ w5.heap.size ≤ g ∧ Bx w g T #[new]
  new_ : b2 = true → ∃ g cap, u2 = .slice (some ⟨g, 0, none⟩) (n + 1) cap ∧ RowN w T 1 u2 (n + 1) (fun k j => if k < n then c k j else [new].getD j undef) ∧ (v.ownBlock = some g ∨ w5.heap.size ≤ g) ∧ g < w.heap.size
theorem RW.lift {w5 w w' : World} {T : TypeId} {v : Value} {n : Nat} {c : Nat → Nat → Value} {new : Value} {b1 b2 : Bool} {u1 u2 : Value} (h : RW w5 w T v n c new b1 b2 u1 u2) (hs : w.heap.size ≤ w'.heap.size)
    (hk : ∀ (b : Nat) (cur : Array Value), w.heap[b]? = some (.cells cur T (0, 0)) → w'.heap[b]? = w.heap[b]?) : RW w5 w' T v n c new b1 b2 u1 u2 := by
  have hrow : ∀ {n' : Nat} {v' : Value} {c' : Nat → Nat → Value}, RowN w T 1 v' n' c' → RowN w' T 1 v' n' c' := fun hr => hr.lift fun b hb _ => by
    obtain ⟨cur, hc⟩ := hr.typed b hb
    exact hk b cur hc
  refine ⟨fun e => hrow (h.old e), fun e1 e2 => ?_, fun e => ?_⟩
  · obtain ⟨g, h1, h2, h3⟩ := h.mid e1 e2
    exact ⟨g, h1, h2, (hk g _ h3).trans h3⟩
  · obtain ⟨g, cap, h1, h2, h3, h4⟩ := h.new_ e
    exact ⟨g, cap, h1, hrow h2, h3, Nat.lt_of_lt_of_le h4 hs⟩
/-- The whole. -/
structure EA (w5 : World) (p : Nat) (v0 vb va : Value) (n m : Nat) (cnt : Int) (cb ca : Nat → Nat → Value) (b5 b6 b7 b11 b12 b13 b16 b19 : Bool) (u6 u7 u12 u13 : Value) (w : World) : Prop where
  os : w.os = w5.os
  tape : w.tape = w5.tape
  output : w.output = w5.output
  size : w5.heap.size ≤ w.heap.size
  block : ∀ b, b < w5.heap.size → b ≠ p → vb.ownBlock ≠ some b → va.ownBlock ≠ some b → w.heap[b]? = w5.heap[b]?
  bx : Bx w p 51 #[v0, if b16 then u7 else vb, if b19 then u13 else va, .map (some m), .int .i64 cnt]
  rb : RW w5 w 9 vb n cb (.string ⟨#[]⟩) b6 b7 u6 u7
  ra : RW w5 w 3 va n ca (.int .i64 0) b12 b13 u12 u13
  i1 : b16 = true → b7 = true
  i2 : b7 = true → b5 = true
  i3 : b19 = true → b13 = true
  i4 : b13 = true → b11 = true
variable {w5 : World} {p : Nat} {v0 vb va : Value} {n m : Nat} {cnt : Int} {cb ca : Nat → Nat → Value} {b5 b6 b7 b11 b12 b13 b16 b19 : Bool} {u6 u7 u12 u13 : Value} {w : World}
theorem EA.load1 (h : EA w5 p v0 vb va n m cnt cb ca b5 b6 b7 b11 b12 b13 b16 b19 u6 u7 u12 u13 w) (h5 : b5 = false) : w.cell? ⟨p, 1, none⟩ = some vb := by
  have h7 : b7 = false := by cases hb : b7; rfl; have := h.i2 hb; rw [h5] at this; cases this
  have h16 : b16 = false := by cases hb : b16; rfl; have := h.i1 hb; rw [h7] at this; cases this
  have := h.bx.all.1 1
  rw [h16] at this
  exact this
theorem EA.load2 (h : EA w5 p v0 vb va n m cnt cb ca b5 b6 b7 b11 b12 b13 b16 b19 u6 u7 u12 u13 w) (h11 : b11 = false) : w.cell? ⟨p, 2, none⟩ = some va := by
  have h13 : b13 = false := by cases hb : b13; rfl; have := h.i4 hb; rw [h11] at this; cases this
  have h19 : b19 = false := by cases hb : b19; rfl; have := h.i3 hb; rw [h13] at this; cases this
  have := h.bx.all.1 2
  rw [h19] at this
  exact this
theorem EA.got5 (h : EA w5 p v0 vb va n m cnt cb ca b5 b6 b7 b11 b12 b13 b16 b19 u6 u7 u12 u13 w) : EA w5 p v0 vb va n m cnt cb ca true b6 b7 b11 b12 b13 b16 b19 u6 u7 u12 u13 w :=
  ⟨h.os, h.tape, h.output, h.size, h.block, h.bx, h.rb, h.ra, h.i1, fun _ => rfl, h.i3, h.i4⟩
theorem EA.got11 (h : EA w5 p v0 vb va n m cnt cb ca b5 b6 b7 b11 b12 b13 b16 b19 u6 u7 u12 u13 w) : EA w5 p v0 vb va n m cnt cb ca b5 b6 b7 true b12 b13 b16 b19 u6 u7 u12 u13 w :=
  ⟨h.os, h.tape, h.output, h.size, h.block, h.bx, h.rb, h.ra, h.i1, h.i2, h.i3, fun _ => rfl⟩
theorem heap_al {w : World} {ob : Obj} {b : Nat} {o : Obj} (h : w.heap[b]? = some o) : (w.alloc ob).heap[b]? = w.heap[b]? := Below.heap_alloc _ _ _ (Array.getElem?_eq_some_iff.1 h).1
theorem EA.build1 (h : EA w5 p v0 vb va n m cnt cb ca b5 b6 b7 b11 b12 b13 b16 b19 u6 u7 u12 u13 w) : EA w5 p v0 vb va n m cnt cb ca b5 true b7 b11 b12 b13 b16 b19 (.slice (some ⟨w.heap.size, 0, none⟩) 1 1) u7 u12 u13 (w.alloc (.cells #[.string ⟨#[]⟩] 9)) := by
  have hr := h.rb.lift (w' := w.alloc (.cells #[.string ⟨#[]⟩] 9)) (by simp) fun b cur hc => heap_al hc
  exact ⟨h.os, h.tape, h.output, by have := h.size; simp; omega, fun b h1 h2 h3 h4 => (Below.heap_alloc _ _ _ (by have := h.size; omega)).trans (h.block b h1 h2 h3 h4), h.bx.alloc _,
    ⟨hr.old, fun _ _ => ⟨_, rfl, h.size, Bx.new _ _ _⟩, hr.new_⟩, h.ra.lift (by simp) fun b cur hc => heap_al hc, h.i1, h.i2, h.i3, h.i4⟩
theorem EA.build2 (h : EA w5 p v0 vb va n m cnt cb ca b5 b6 b7 b11 b12 b13 b16 b19 u6 u7 u12 u13 w) : EA w5 p v0 vb va n m cnt cb ca b5 b6 b7 b11 true b13 b16 b19 u6 u7 (.slice (some ⟨w.heap.size, 0, none⟩) 1 1) u13 (w.alloc (.cells #[.int .i64 0] 3)) := by
  have hr := h.ra.lift (w' := w.alloc (.cells #[.int .i64 0] 3)) (by simp) fun b cur hc => heap_al hc
  exact ⟨h.os, h.tape, h.output, by have := h.size; simp; omega, fun b h1 h2 h3 h4 => (Below.heap_alloc _ _ _ (by have := h.size; omega)).trans (h.block b h1 h2 h3 h4), h.bx.alloc _,
    h.rb.lift (by simp) fun b cur hc => heap_al hc, ⟨hr.old, fun _ _ => ⟨_, rfl, h.size, Bx.new _ _ _⟩, hr.new_⟩, h.i1, h.i2, h.i3, h.i4⟩
theorem EA.store1 (h : EA w5 p v0 vb va n m cnt cb ca b5 b6 b7 b11 b12 b13 b16 b19 u6 u7 u12 u13 w) (h7 : b7 = true) : EA w5 p v0 vb va n m cnt cb ca b5 b6 b7 b11 b12 b13 true b19 u6 u7 u12 u13 (w.setCell ⟨p, 1, none⟩ u7) := by
  have on : Only p w (w.setCell ⟨p, 1, none⟩ u7) := (Only.refl p w).set 1 u7
  have hx : Bx (w.setCell ⟨p, 1, none⟩ u7) p 51 #[v0, u7, if b19 then u13 else va, .map (some m), .int .i64 cnt] := h.bx.set 1 u7
  exact ⟨on.os.trans h.os, on.tape.trans h.tape, on.output.trans h.output, by rw [on.size]; exact h.size, fun b h1 h2 h3 h4 => (on.block b h2).trans (h.block b h1 h2 h3 h4), hx,
    h.rb.lift (by rw [on.size]; exact Nat.le_refl _) fun b cur hc => on.block b (types_ne hc h.bx (by decide)), h.ra.lift (by rw [on.size]; exact Nat.le_refl _) fun b cur hc => on.block b (types_ne hc h.bx (by decide)), fun _ => h7, h.i2, h.i3, h.i4⟩
theorem EA.store2 (h : EA w5 p v0 vb va n m cnt cb ca b5 b6 b7 b11 b12 b13 b16 b19 u6 u7 u12 u13 w) (h13 : b13 = true) : EA w5 p v0 vb va n m cnt cb ca b5 b6 b7 b11 b12 b13 b16 true u6 u7 u12 u13 (w.setCell ⟨p, 2, none⟩ u13) := by
  have on : Only p w (w.setCell ⟨p, 2, none⟩ u13) := (Only.refl p w).set 2 u13
  have hx : Bx (w.setCell ⟨p, 2, none⟩ u13) p 51 #[v0, if b16 then u7 else vb, u13, .map (some m), .int .i64 cnt] := h.bx.set 2 u13
  exact ⟨on.os.trans h.os, on.tape.trans h.tape, on.output.trans h.output, by rw [on.size]; exact h.size, fun b h1 h2 h3 h4 => (on.block b h2).trans (h.block b h1 h2 h3 h4), hx,
    h.rb.lift (by rw [on.size]; exact Nat.le_refl _) fun b cur hc => on.block b (types_ne hc h.bx (by decide)), h.ra.lift (by rw [on.size]; exact Nat.le_refl _) fun b cur hc => on.block b (types_ne hc h.bx (by decide)), h.i1, h.i2, fun _ => h13, h.i4⟩
theorem ge_none {a : Option Nat} {b : Nat} (h : some b ≠ a) : a ≠ some b := fun e => h e.symm
/-- The first row grows. -/
theorem EA.app1 {w' : World} {g' cap' : Nat} (h : EA w5 p v0 vb va n m cnt cb ca b5 b6 b7 b11 b12 b13 b16 b19 u6 u7 u12 u13 w) (h7 : b7 = false) (h5 : b5 = true)
    (hrow : RowN w' 9 1 (.slice (some ⟨g', 0, none⟩) (n + 1) cap') (n + 1) (fun k j => if k < n then cb k j else [Value.string ⟨#[]⟩].getD j undef)) (hg : w.grownBy w' vb.ownBlock) (hat : vb.ownBlock = some g' ∨ g' = w.heap.size) (hlt : g' < w'.heap.size) :
    EA w5 p v0 vb va n m cnt cb ca b5 b6 true b11 b12 b13 b16 b19 u6 (.slice (some ⟨g', 0, none⟩) (n + 1) cap') u12 u13 w' := by
  subst h7
  have h16 : b16 = false := by cases hb : b16; rfl; have := h.i1 hb; cases this
  have htyp := (h.rb.old rfl).typed
  have hkeep : ∀ (b : Nat) (cur : Array Value) (T : TypeId), w.heap[b]? = some (.cells cur T (0, 0)) → T ≠ 9 → w'.heap[b]? = w.heap[b]? := fun b cur T hc hT => hg.block b (Array.getElem?_eq_some_iff.1 hc).1 (fun e => by
    obtain ⟨cur2, hc2⟩ := htyp b e.symm
    exact types_ne hc hc2 hT rfl)
  refine ⟨hg.os.trans h.os, hg.tape.trans h.tape, hg.output.trans h.output, Nat.le_trans h.size hg.size, fun b h1 h2 h3 h4 => (hg.block b (by have := h.size; omega) (fun e => h3 e.symm)).trans (h.block b h1 h2 h3 h4), ?_, ⟨fun e => (by cases e), fun _ e => (by cases e), fun _ => ⟨g', cap', rfl, hrow, ?_, hlt⟩⟩, h.ra.lift hg.size fun b cur hc => hkeep b cur _ hc (by decide), fun e => (by simp [h16] at e), fun _ => h5, h.i3, h.i4⟩
  · rw [h16]
    have hx := h.bx
    rw [h16] at hx
    exact (hkeep p _ _ hx (by decide)).trans hx
  · rcases hat with e | e
    · exact .inl e
    · exact .inr (by have := h.size; omega)
/-- The second row grows. -/
theorem EA.app2 {w' : World} {g' cap' : Nat} (h : EA w5 p v0 vb va n m cnt cb ca b5 b6 b7 b11 b12 b13 b16 b19 u6 u7 u12 u13 w) (h13 : b13 = false) (h11 : b11 = true)
    (hrow : RowN w' 3 1 (.slice (some ⟨g', 0, none⟩) (n + 1) cap') (n + 1) (fun k j => if k < n then ca k j else [Value.int .i64 0].getD j undef)) (hg : w.grownBy w' va.ownBlock) (hat : va.ownBlock = some g' ∨ g' = w.heap.size) (hlt : g' < w'.heap.size) :
    EA w5 p v0 vb va n m cnt cb ca b5 b6 b7 b11 b12 true b16 b19 u6 u7 u12 (.slice (some ⟨g', 0, none⟩) (n + 1) cap') w' := by
  subst h13
  have h19 : b19 = false := by cases hb : b19; rfl; have := h.i3 hb; cases this
  have htyp := (h.ra.old rfl).typed
  have hkeep : ∀ (b : Nat) (cur : Array Value) (T : TypeId), w.heap[b]? = some (.cells cur T (0, 0)) → T ≠ 3 → w'.heap[b]? = w.heap[b]? := fun b cur T hc hT => hg.block b (Array.getElem?_eq_some_iff.1 hc).1 (fun e => by
    obtain ⟨cur2, hc2⟩ := htyp b e.symm
    exact types_ne hc hc2 hT rfl)
  refine ⟨hg.os.trans h.os, hg.tape.trans h.tape, hg.output.trans h.output, Nat.le_trans h.size hg.size, fun b h1 h2 h3 h4 => (hg.block b (by have := h.size; omega) (fun e => h4 e.symm)).trans (h.block b h1 h2 h3 h4), ?_, h.rb.lift hg.size fun b cur hc => hkeep b cur _ hc (by decide), ⟨fun e => (by cases e), fun _ e => (by cases e), fun _ => ⟨g', cap', rfl, hrow, ?_, hlt⟩⟩, h.i1, h.i2, fun e => (by simp [h19] at e), fun _ => h11⟩
  · rw [h19]
    have hx := h.bx
    rw [h19] at hx
    exact (hkeep p _ _ hx (by decide)).trans hx
  · rcases hat with e | e
    · exact .inl e
    · exact .inr (by have := h.size; omega)
/-- A note has been added to the reference's review. -/
theorem RO.added {W w w7 : World} {p : Nat} {σ : Rv} {F : Nat → Prop} {vn vb va : Value} {m : Nat} {rv : Nat → Value} {g' cap' gB capB gA capA : Nat} {shot : ByteArray} {frame : Int} {author text : ByteArray} (h : RO w p σ F vn vb va m rv) (hW : Below W.heap.size W w)
    (h1 : Bx w7 p 51 #[.slice (some ⟨g', 0, none⟩) (σ.notes.length + 1) cap', .slice (some ⟨gB, 0, none⟩) (σ.notes.length + 1) capB, .slice (some ⟨gA, 0, none⟩) (σ.notes.length + 1) capA, .map (some m), .int .i64 σ.count])
    (h2 : RowN w7 65 7 (.slice (some ⟨g', 0, none⟩) (σ.notes.length + 1) cap') (σ.notes.length + 1) (fun k j => if k < σ.notes.length then mcell σ.notes rv k j else (nt7 ((σ.notes.length : Int) + 1) ⟨shot, frame, author, text, true, [], ⟨#[]⟩, 0⟩ (.slice none 0 0)).getD j undef))
    (h2b : RowN w7 9 1 (.slice (some ⟨gB, 0, none⟩) (σ.notes.length + 1) capB) (σ.notes.length + 1) (fun k j => if k < σ.notes.length then .string (nAt σ.notes k).closer else [Value.string ⟨#[]⟩].getD j undef))
    (h2a : RowN w7 3 1 (.slice (some ⟨gA, 0, none⟩) (σ.notes.length + 1) capA) (σ.notes.length + 1) (fun k j => if k < σ.notes.length then .int .i64 (nAt σ.notes k).closed else [Value.int .i64 0].getD j undef))
    (h3 : MapT w7 m (delA σ.appr shot)) (hat : vn.ownBlock = some g' ∨ w.heap.size ≤ g') (hatB : vb.ownBlock = some gB ∨ w.heap.size ≤ gB) (hatA : va.ownBlock = some gA ∨ w.heap.size ≤ gA) (hlt : g' < w7.heap.size) (hltB : gB < w7.heap.size) (hltA : gA < w7.heap.size)
    (hs : w.heap.size ≤ w7.heap.size) (ho : w7.os = w.os ∧ w7.tape = w.tape ∧ w7.output = w.output)
    (hk : ∀ b, b < w.heap.size → b ≠ p → b ≠ m → vn.ownBlock ≠ some b → vb.ownBlock ≠ some b → va.ownBlock ≠ some b → w7.heap[b]? = w.heap[b]?) : RGo W p (addS σ shot frame author text) F w7 := by
  have hln : (addS σ shot frame author text).notes.length = σ.notes.length + 1 := by simp [addS]
  have hget : ∀ k, nAt (addS σ shot frame author text).notes k = if k < σ.notes.length then nAt σ.notes k else if k = σ.notes.length then ⟨shot, frame, author, text, true, [], ⟨#[]⟩, 0⟩ else default := fun k => nAt_snoc
  have hsz := hW.size
  obtain ⟨hpm, hn1, hn2, hn3, hn4⟩ := h.nes
  refine ⟨fun b => F b ∨ b = g' ∨ b = gB ∨ b = gA, .slice (some ⟨g', 0, none⟩) (σ.notes.length + 1) cap', .slice (some ⟨gB, 0, none⟩) (σ.notes.length + 1) capB, .slice (some ⟨gA, 0, none⟩) (σ.notes.length + 1) capA, m, fun k => if k < σ.notes.length then rv k else .slice none 0 0, ⟨h1, ?_, ?_, ?_, ?_, h3, .inl h.fp, .inl h.fm, ?_, ?_, ?_, ?_, ?_⟩, ?_, ?_⟩
  · rw [hln]
    refine h2.congr fun k j hk' hj => ?_
    by_cases hkn : k < σ.notes.length
    · rw [if_pos hkn]
      unfold mcell ncell
      rw [hget k, if_pos hkn]
      simp only [if_pos hkn]
    · obtain rfl : k = σ.notes.length := by omega
      rw [if_neg hkn]
      unfold mcell ncell
      rw [hget, if_neg hkn, if_pos rfl]
      simp only [if_neg hkn]
      rcases (by omega : j = 0 ∨ j = 1 ∨ j = 2 ∨ j = 3 ∨ j = 4 ∨ j = 5 ∨ j = 6) with rfl | rfl | rfl | rfl | rfl | rfl | rfl <;> rfl
  · rw [hln]
    refine h2b.congr fun k j hk' hj => ?_
    obtain rfl : j = 0 := by omega
    by_cases hkn : k < σ.notes.length
    · rw [if_pos hkn, hget k, if_pos hkn]
    · obtain rfl : k = σ.notes.length := by omega
      rw [if_neg hkn, hget, if_neg hkn, if_pos rfl]; rfl
  · rw [hln]
    refine h2a.congr fun k j hk' hj => ?_
    obtain rfl : j = 0 := by omega
    by_cases hkn : k < σ.notes.length
    · rw [if_pos hkn, hget k, if_pos hkn]
    · obtain rfl : k = σ.notes.length := by omega
      rw [if_neg hkn, hget, if_neg hkn, if_pos rfl]; rfl
  · intro k hk'
    rw [hln] at hk'
    rw [hget k]
    by_cases hkn : k < σ.notes.length
    · simp only [if_pos hkn]
      refine (h.reps k hkn).lift fun b hb hblt => ?_
      obtain ⟨a1, a2, a3, a4, a5⟩ := hn4 k hkn b hb
      exact hk b hblt a1 a2 a3 a4 a5
    · simp only [if_neg hkn, if_pos (show k = σ.notes.length by omega)]
      exact RowN.nil _ _ _ _
  · intro b hb
    simp only [Value.ownBlock, Option.some.injEq] at hb
    exact .inr (.inl hb.symm)
  · intro b hb
    simp only [Value.ownBlock, Option.some.injEq] at hb
    exact .inr (.inr (.inl hb.symm))
  · intro b hb
    simp only [Value.ownBlock, Option.some.injEq] at hb
    exact .inr (.inr (.inr hb.symm))
  · intro k hk' b hb
    by_cases h5 : k < σ.notes.length
    · simp only [if_pos h5] at hb
      exact .inl (h.fr k h5 b hb)
    · simp only [if_neg h5] at hb
      cases hb
  · rintro b (hb | rfl | rfl | rfl)
    · exact Nat.lt_of_lt_of_le (h.flt b hb) hs
    · exact hlt
    · exact hltB
    · exact hltA
  · exact ⟨ho.1.trans hW.os, ho.2.1.trans hW.tape, ho.2.2.trans hW.output, by omega, fun b hb hnF => by
      rw [hk b (by omega) (fun e => hnF (e ▸ h.fp)) (fun e => hnF (e ▸ h.fm)) (fun e => hnF (h.fv b e)) (fun e => hnF (h.fb b e)) (fun e => hnF (h.fa b e))]
      exact hW.block b hb⟩
  · rintro b (hb | rfl | rfl | rfl)
    · exact .inl hb
    · rcases hat with hat | hat
      · exact .inl (h.fv _ hat)
      · exact .inr (by omega)
    · rcases hatB with hat | hat
      · exact .inl (h.fb _ hat)
      · exact .inr (by omega)
    · rcases hatA with hat | hat
      · exact .inl (h.fa _ hat)
      · exact .inr (by omega)
end Go.Proofs.YtilninaminaadaaGreatDoor
