/- Stable sorting of singles: two ranges exchanged, a rotation. -/
import Derived.Test.YteebkfdocdmboaaDoorStP
import Derived.Test.YteebkfdocdmboaaDoorStR
namespace Go.Proofs.YteebkfdocdmboaaDoor
open Go.RowKit

/-- All blocks but g are as they were; others may have come. -/
structure Oth (g : Nat) (w w' : World) : Prop where
  os : w'.os = w.os
  tape : w'.tape = w.tape
  output : w'.output = w.output
  size : w.heap.size ≤ w'.heap.size
  block : ∀ k, k < w.heap.size → k ≠ g → w'.heap[k]? = w.heap[k]?
theorem Oth.refl (g : Nat) (w : World) : Oth g w w := ⟨rfl, rfl, rfl, Nat.le_refl _, fun _ _ _ => rfl⟩
theorem Oth.trans {g : Nat} {w w1 w2 : World} (h1 : Oth g w w1) (h2 : Oth g w1 w2) : Oth g w w2 :=
  ⟨h2.os.trans h1.os, h2.tape.trans h1.tape, h2.output.trans h1.output, Nat.le_trans h1.size h2.size, fun k hk hg => (h2.block k (Nat.lt_of_lt_of_le hk h1.size) hg).trans (h1.block k hk hg)⟩
theorem Oth.of_only {g : Nat} {w w' : World} (h : Only g w w') : Oth g w w' := ⟨h.os, h.tape, h.output, Nat.le_of_eq h.size.symm, fun k _ hk => h.block k hk⟩
theorem Oth.of_below {g : Nat} {w w' : World} (h : Below w.heap.size w w') : Oth g w w' := ⟨h.os, h.tape, h.output, h.size, fun k hk _ => h.block k hk⟩
theorem Oth.drewN {g : Nat} {w w' : World} (h : Oth g w w') (n : Nat) : Oth g w (w'.drewN n) := ⟨h.os, h.tape, h.output, h.size, h.block⟩
theorem Oth.below {g B : Nat} {w w' : World} (h : Oth g w w') (hB : B ≤ g) (hs : B ≤ w.heap.size) : Below B w w' := ⟨h.os, h.tape, h.output, h.size, fun k hk => h.block k (by omega) (by omega)⟩
theorem Oth.bx {g b : Nat} {w w' : World} {T : TypeId} {cs : Array Value} (h : Oth g w w') (hb : b ≠ g) (x : Bx w b T cs) : Bx w' b T cs := by
  unfold Bx
  rw [h.block b x.lt hb]; exact x

theorem drew_only {b : Nat} {w w' : World} (h : Only b w w') (n : Nat) : Only b w (w'.drewN n) := ⟨h.os, h.tape, h.output, h.size, h.block⟩

end Go.Proofs.YteebkfdocdmboaaDoor
