/- Regions: the checks of the program and of the references, walked. -/
import Derived.WalkKit
import Derived.WalkSpells
import Derived.WalkLawsBesides
import Derived.Laws.FloatArith
import Derived.Laws.EntriesVeiled
import Derived.Deep.Draws
import Derived.Test.YticekgnmiaidjaaGreatDoorProg
import Derived.BigGuardPart
namespace Go.Proofs.YticekgnmiaidjaaGreatDoor

section
open Go.RowKit

theorem ret_bool {a b : Bool} (h : a = b) : Ending.returned (.bool a) = .returned (.bool b) := by rw [h]
@[go_sem] theorem run_store_float {P : Program} {w : World} {a : Addr} {m : Mode} (k : FloatKind) (b : Nat) : (store a (.float k b) m).run P w = stored P w a (.float k b) m := run_store P w a _ m rfl
/-- min and max of two integers, not opened by the walk. -/
def imin (x y : Int) : Int := if y < x then y else x
def imax (x y : Int) : Int := if y > x then y else x
@[go_sem ↓ high] theorem run_max_i {P : Program} {w : World} (ts : Array TypeId) (t : TypeId) (k k' : IntKind) (x y : Int) : (Builtin.max_ ts t #[.int k x, .int k' y]).run P w = .ok (.int k (imax x y)) w := by
  rw [run_max_int2]; rfl
@[go_sem ↓ high] theorem run_min_i {P : Program} {w : World} (ts : Array TypeId) (t : TypeId) (k k' : IntKind) (x y : Int) : (Builtin.min_ ts t #[.int k x, .int k' y]).run P w = .ok (.int k (imin x y)) w := by
  rw [run_min_int2]; rfl
/-- What an arithmetic operation hands back in world w: the rounded result, or, where it is invalid, whatever NaN the tape says. -/
def fres (op : BinOp) (k : FloatKind) (x y : Nat) (w : World) : Nat :=
  match floatBits op k x y with
  | some r => r
  | none => (Question.nanBits k x y).cut (w.tape w.drawn (.nanBits k x y))
def fdr (op : BinOp) (k : FloatKind) (x y : Nat) : Nat := if (floatBits op k x y).isSome then 0 else 1

section
variable {P : Program} (w : World)
theorem run_farith (op : BinOp) (hop : op = .add ∨ op = .sub ∨ op = .mul ∨ op = .quo) (t : TypeId) (k : FloatKind) (x y : Nat) :
    (binOp op t (.float k x) (.float k y)).run P w = .ok (.float k (fres op k x y w)) (w.drewN (fdr op k x y)) := by
  cases h : floatBits op k x y with
  | some r =>
    have := run_float_arith (P := P) w op t k x y r h
    rw [this]
    simp [fres, fdr, h]
    rfl
  | none =>
    have hr : fres op k x y w = (Question.nanBits k x y).cut (w.tape w.drawn (.nanBits k x y)) := by simp [fres, h]
    have hd : fdr op k x y = 1 := by simp [fdr, h]
    rw [hr, hd]
    unfold floatBits at h
    rcases hop with rfl | rfl | rfl | rfl <;> simp only at h <;> simp [binOp, Op.floatArith, h, choose, Sem.run, Question.forced, World.drewN]
@[go_sem] theorem run_fadd (t : TypeId) (k : FloatKind) (x y : Nat) : (binOp .add t (.float k x) (.float k y)).run P w = .ok (.float k (fres .add k x y w)) (w.drewN (fdr .add k x y)) := run_farith w .add (by simp) t k x y
@[go_sem] theorem run_fsub (t : TypeId) (k : FloatKind) (x y : Nat) : (binOp .sub t (.float k x) (.float k y)).run P w = .ok (.float k (fres .sub k x y w)) (w.drewN (fdr .sub k x y)) := run_farith w .sub (by simp) t k x y
@[go_sem] theorem run_fmul (t : TypeId) (k : FloatKind) (x y : Nat) : (binOp .mul t (.float k x) (.float k y)).run P w = .ok (.float k (fres .mul k x y w)) (w.drewN (fdr .mul k x y)) := run_farith w .mul (by simp) t k x y
@[go_sem] theorem run_fquo (t : TypeId) (k : FloatKind) (x y : Nat) : (binOp .quo t (.float k x) (.float k y)).run P w = .ok (.float k (fres .quo k x y w)) (w.drewN (fdr .quo k x y)) := run_farith w .quo (by simp) t k x y
end

/-- A word that is a NaN, as Go's 'v != v' asks it. -/
def isNaN (b : Nat) : Bool := FloatKind.f32.format.order b b != some .eq
/-- The NaN. -/
def theNaN : Nat := 2143289344
/-- num.Clean. -/
def canon (b : Nat) : Nat := if isNaN b then theNaN else b
def rd (b : Nat) : Ieee.Datum := FloatKind.f32.format.read b

theorem order_none_left {d e : Ieee.Datum} (h : d.isNaN = true) : d.order e = none := by
  cases d <;> simp_all [Ieee.Datum.isNaN, Ieee.Datum.order]
theorem order_self {d : Ieee.Datum} (h : d.isNaN = false) : d.order d = some .eq := by
  cases d with
  | nan s f => simp [Ieee.Datum.isNaN] at h
  | infinity s => simp [Ieee.Datum.order]
  | number s m i => simp [Ieee.Datum.order]

theorem isNaN_iff (b : Nat) : isNaN b = (rd b).isNaN := by
  unfold isNaN Ieee.Format.order
  show ((rd b).order (rd b) != some .eq) = _
  cases h : (rd b).isNaN
  · rw [order_self h]; rfl
  · rw [order_none_left h]; rfl

/-- A NaN among the operands: the operation is invalid. -/
theorem floatBits_nan_left {op : BinOp} {x y : Nat} (h : isNaN x = true) : floatBits op .f32 x y = none := by
  rw [isNaN_iff] at h
  cases hx : rd x with
  | number => simp [hx, Ieee.Datum.isNaN] at h
  | infinity => simp [hx, Ieee.Datum.isNaN] at h
  | nan s f =>
    have hx' : FloatKind.f32.format.read x = .nan s f := hx
    unfold floatBits
    split <;> simp [Ieee.Format.add, Ieee.Format.sub, Ieee.Format.mul, Ieee.Format.div, hx', Ieee.Datum.sum, Ieee.Datum.product, Ieee.Datum.quotient]
/-- What the tape gives for an invalid operation is a NaN. -/
theorem cut_nan (x y t : Nat) : isNaN ((Question.nanBits .f32 x y).cut t) = true := by
  rw [isNaN_iff]
  have hb : (t / 2) % (2 ^ 23 - 1) < 2 ^ 23 - 1 := Nat.mod_lt _ (by decide)
  have e : (Question.nanBits .f32 x y).cut t = (t % 2) * 2 ^ 31 + 0x7f800000 + 1 + (t / 2) % (2 ^ 23 - 1) := rfl
  rw [e]
  have h2 : t % 2 = 0 ∨ t % 2 = 1 := by omega
  generalize (t / 2) % (2 ^ 23 - 1) = q at *
  have hs : FloatKind.f32.format.signWeight = 2147483648 := by decide
  have hbn : FloatKind.f32.format.binade = 8388608 := by decide
  have hi : FloatKind.f32.format.infRung = 2139095040 := by decide
  unfold rd Ieee.Format.read
  simp only [hs, hbn, hi]
  have hm : (t % 2 * 2 ^ 31 + 0x7f800000 + 1 + q) % 2147483648 = 2139095041 + q := by rcases h2 with h | h <;> rw [h] <;> omega
  rw [hm, if_neg (by omega), if_neg (by omega), if_neg (by omega)]
  rfl

end

section
open Go.RowKit

@[go_sem] theorem run_frombits (n : Int) (w : World) : (callFunc 112 #[.int .u32 n]).run Tryz.prog w = .ok (.value (.float .f32 n.toNat)) w := by
  rw [run_callFunc_extern Tryz.func112 (by kernel_rfl) (by kernel_rfl) (by kernel_rfl) (e := Extern.MathFloatBits.float32frombits) (by kernel_rfl)]; rfl
@[go_sem] theorem run_tobits (b : Nat) (w : World) : (callFunc 64 #[.float .f32 b]).run Tryz.prog w = .ok (.value (.int .u32 b)) w := by
  rw [run_callFunc_extern Tryz.func64 (by kernel_rfl) (by kernel_rfl) (by kernel_rfl) (e := Extern.MathFloatBits.float32bits) (by kernel_rfl)]; rfl

set_option maxRecDepth 100000 in
theorem num_Clean (b : Nat) (w : World) : Calls Tryz.prog 65 #[.float .f32 b] w fun e w' => e = .returned (.float .f32 (canon b)) ∧ w = w' := by
  cases hb : (FloatKind.f32.format.order b b != some .eq)
  · go_enter Tryz.func65, Tryz.ntmps65
    go_wp2
    go_ret
    exact ⟨by simp [canon, isNaN, hb], rfl⟩
  · go_enter Tryz.func65, Tryz.ntmps65
    go_wp2
    go_ret
    exact ⟨by simp [canon, isNaN, hb, theNaN], rfl⟩

theorem num_Bits (b : Nat) (w : World) : Calls Tryz.prog 30 #[.float .f32 b] w fun e w' => e = .returned (.int .u32 (canon b)) ∧ w = w' := by
  go_enter Tryz.func30, Tryz.ntmps30
  go_wp2_with (go_at_call 65; refine (num_Clean _ _).mono ?_; rintro e w' ⟨rfl, rfl⟩)
  go_ret
  exact ⟨rfl, rfl⟩

theorem law_landed (w : World) : Calls Tryz.prog 7 #[] w fun e w' => e = .returned (.bool true) ∧ w = w' := by
  go_enter Tryz.func7, Tryz.ntmps7
  go_wp2_with (go_at_call 30; refine (num_Bits _ _).mono ?_; rintro e w' ⟨rfl, rfl⟩)
  go_ret
  exact ⟨ret_bool (by decide), rfl⟩
end

section
open Go.RowKit

end
end Go.Proofs.YticekgnmiaidjaaGreatDoor
