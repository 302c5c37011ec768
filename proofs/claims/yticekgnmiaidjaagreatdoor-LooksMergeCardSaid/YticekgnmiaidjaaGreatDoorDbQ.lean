/- A single divided by a small whole number, by way of doubles: at every single, also the smallest and the greatest. No program in sight. -/
import Derived.Test.YticekgnmiaidjaaGreatDoorFlt4
namespace Go.Proofs.YticekgnmiaidjaaGreatDoor

section
open Go.RowKit Ieee

end

section
open Go.RowKit Ieee

theorem nearest_up (f : Format) (s : Bool) {m : Nat} (p last : Int) (hm : m ≠ 0) (hlast : last = max (p + m.log2 - f.fractionBits) f.leastPlace) (hp : last ≤ p) :
    f.nearest s m p = f.word s (min ((last - f.leastPlace).toNat * f.binade + m * 2 ^ (p - last).toNat) f.infRung) := by
  unfold Format.nearest
  rw [if_neg hm]
  simp only [← hlast]
  rw [show (last - p).toNat = 0 by omega, cut_none, Nat.shiftLeft_eq]
theorem log2_is {n k : Nat} (h1 : 2 ^ k ≤ n) (h2 : n < 2 ^ (k + 1)) : n.log2 = k := by
  have h0 : n ≠ 0 := by have := Nat.two_pow_pos k; omega
  have a := (Nat.le_log2 h0).2 h1
  have b := (Nat.log2_lt h0).2 h2
  omega
end

section
open Go.RowKit Ieee

end

section
open Go.RowKit Ieee

end

section
open Go.RowKit Ieee

end

section
open Go.RowKit Ieee

theorem narrow_fin {x : Nat} {s : Bool} {k : Nat} {l : Int} (h : FloatKind.f64.format.read x = .number s k l) (hf : ∃ t k' l', FloatKind.f32.format.read (FloatKind.f32.format.nearest s k l) = .number t k' l') : floatToFloatBits .f64 x .f32 = some (FloatKind.f32.format.nearest s k l) := by
  obtain ⟨t, k', l', hr⟩ := hf
  unfold floatToFloatBits
  have h' : FloatKind.f64.decode x = .number s k l := h
  rw [if_neg (by decide), h']
  have hr2 : FloatKind.f32.decode (FloatKind.f32.encode (.number s k l)) = .number t k' l' := hr
  simp only [hr2]
  rfl

end
end Go.Proofs.YticekgnmiaidjaaGreatDoor
