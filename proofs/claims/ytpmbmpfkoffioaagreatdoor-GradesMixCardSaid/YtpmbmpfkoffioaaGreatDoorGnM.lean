/- The nearest whole number from 0 to 50; a whole number as a single; the mixing closure. (printed by gen_gnm.py) -/
import Derived.Test.YtpmbmpfkoffioaaGreatDoorGnK
import Derived.Test.YtpmbmpfkoffioaaGreatDoorFst
import Derived.Test.YtpmbmpfkoffioaaGreatDoorDbQ
namespace Go.Proofs.YtpmbmpfkoffioaaGreatDoor
open Go.RowKit Go.Lib Ieee

theorem order_scaled {s : Bool} {m : Nat} {p : Int} {M : Nat} {q jj : Int} (hlo : (Datum.number s m p).order (.number true M q) ≠ some .lt ∨ (Datum.number s m p).order (.number false 0 jj) ≠ some .lt)
    (hhi : (Datum.number s m p).order (.number false M q) ≠ some .gt) : m * 2 ^ (p - min p q).toNat ≤ M * 2 ^ (q - min p q).toNat := by
  have key : ∀ x y : Int, (some (compare x y) ≠ some Ordering.lt → y ≤ x) ∧ (some (compare x y) ≠ some Ordering.gt → x ≤ y) := fun x y =>
    ⟨fun h => Int.not_lt.1 fun h2 => h (by rw [Int.compare_eq_lt.2 h2]), fun h => Int.not_lt.1 fun h2 => h (by rw [Int.compare_eq_gt.2 h2])⟩
  simp only [Datum.order, signed_pow] at hlo hhi
  have h2 := (key _ _).2 hhi
  cases s
  · simp only [Bool.false_eq_true, if_false] at h2
    exact_mod_cast h2
  · rcases hlo with h | h
    · have h1 := (key _ _).1 h
      simp only [if_true] at h1
      rw [Int.neg_mul, Int.neg_mul] at h1
      have h1 := Int.neg_le_neg_iff.1 h1
      exact_mod_cast h1
    · have h1 := (key _ _).1 h
      simp only [if_true, Bool.false_eq_true, if_false, Int.neg_mul] at h1
      have h3 : (m : Int) * 2 ^ (p - min p jj).toNat ≤ 0 := by
        have : ((0 : Nat) : Int) * 2 ^ (jj - min p jj).toNat = 0 := by simp
        omega
      have h4 : m * 2 ^ (p - min p jj).toNat ≤ 0 := by exact_mod_cast h3
      have hp := Nat.two_pow_pos (p - min p jj).toNat
      have hm : m = 0 := by
        rcases Nat.eq_zero_or_pos m with h0 | h0
        · exact h0
        · have := Nat.mul_pos h0 hp; omega
      rw [hm, Nat.zero_mul]; exact Nat.zero_le _
theorem trunc_le {m V : Nat} {p q : Int} (hq : q ≤ 0) (h : m * 2 ^ (p - min p q).toNat ≤ (V * 2 ^ (-q).toNat) * 2 ^ (q - min p q).toNat) : (m <<< p.toNat) / 2 ^ (-p).toNat ≤ V := by
  rw [Nat.shiftLeft_eq]
  rw [Nat.mul_assoc, ← Nat.pow_add, show (-q).toNat + (q - min p q).toNat = (-min p q).toNat by omega] at h
  by_cases h0 : 0 ≤ p
  · rw [show (-p).toNat = 0 by omega, Nat.pow_zero, Nat.div_one]
    rw [show min p q = q by omega, show (p - q).toNat = p.toNat + (-q).toNat by omega, Nat.pow_add, ← Nat.mul_assoc] at h
    exact Nat.le_of_mul_le_mul_right h (Nat.two_pow_pos _)
  · rw [show p.toNat = 0 by omega, Nat.pow_zero, Nat.mul_one]
    apply Nat.div_le_of_le_mul
    rw [show (-min p q).toNat = (-p).toNat + (p - min p q).toNat by omega, Nat.pow_add, ← Nat.mul_assoc] at h
    have := Nat.le_of_mul_le_mul_right h (Nat.two_pow_pos _)
    rw [Nat.mul_comm]; exact this
theorem ne_of_beq {o : Option Ordering} {a : Ordering} (h : (o == some a) = false) : o ≠ some a := fun e => by rw [e] at h; simp at h
theorem cut_zero (neg : Bool) (n drop : Nat) : Toward.zero.cut neg n drop = n / 2 ^ drop := by
  unfold Toward.cut
  simp only [Nat.shiftLeft_eq, Nat.one_mul, Bool.toNat_false, Nat.add_zero]
  by_cases h : drop ≤ n.log2 + 2
  · rw [Nat.min_eq_left h]
  · rw [Nat.min_eq_right (by omega)]
    have h1 : n < 2 ^ (n.log2 + 2) := Nat.lt_of_lt_of_le Nat.lt_log2_self (Nat.pow_le_pow_right (by omega) (by omega))
    have h2 : n < 2 ^ drop := Nat.lt_of_lt_of_le h1 (Nat.pow_le_pow_right (by omega) (by omega))
    rw [Nat.div_eq_of_lt h1, Nat.div_eq_of_lt h2]
def wid (v : Nat) : Nat := (floatToFloatBits .f32 v .f64).getD 0
def rte (b : Nat) : Nat := FloatKind.f64.encode ((FloatKind.f64.decode b).integral .even)
def lt64 (a b : Nat) : Bool := FloatKind.f64.format.order a b == some .lt
def gt64 (a b : Nat) : Bool := FloatKind.f64.format.order a b == some .gt
theorem write64_nn {d : Datum} (h : d.isNaN = false) : (FloatKind.f64.decode (FloatKind.f64.encode d)).isNaN = false := by
  cases d with
  | nan => cases h
  | infinity s =>
    show (FloatKind.f64.format.read (FloatKind.f64.format.word s FloatKind.f64.format.infRung)).isNaN = false
    rw [read_word _ s _ FloatKind.f64.format.infRung_lt, f64_inf, f64_binade, if_neg (by omega), if_neg (by omega), if_pos rfl]; rfl
  | number s m p =>
    show (FloatKind.f64.format.read (FloatKind.f64.format.nearest s m p)).isNaN = false
    rcases read_nearest FloatKind.f64.format s m p with ⟨k, l, h, _⟩ | h <;> rw [h] <;> rfl
theorem wid_ok {v : Nat} (h : isNaN v = false) : floatToFloatBits .f32 v .f64 = some (wid v) ∧ (FloatKind.f64.decode (wid v)).isNaN = false := by
  rcases cases_nn h with ⟨s, m, i, hr⟩ | ⟨s, hr⟩
  · obtain ⟨r, k, l, h1, h2, _⟩ := widen v s m i hr
    have hw : wid v = r := by unfold wid; rw [h1]; rfl
    rw [hw]
    exact ⟨h1, by rw [h2]; rfl⟩
  · have h1 : floatToFloatBits .f32 v .f64 = some (FloatKind.f64.encode (.infinity s)) := by
      unfold floatToFloatBits
      rw [if_neg (by decide), show FloatKind.f32.decode v = .infinity s from hr]
    have hw : wid v = FloatKind.f64.encode (.infinity s) := by unfold wid; rw [h1]; rfl
    rw [hw]
    exact ⟨h1, write64_nn rfl⟩
theorem integral_nn {d : Datum} (w : Toward) (h : d.isNaN = false) : (d.integral w).isNaN = false := by
  cases d with
  | nan => cases h
  | infinity s => rfl
  | number s m p => rfl
theorem run_rte {b : Nat} (h : (FloatKind.f64.decode b).isNaN = false) (w : World) :
    (callFunc 37 #[.float .f64 b]).run Tryz.prog w = .ok (.value (.float .f64 (rte b))) w := by
  rw [run_callFunc_extern Tryz.func37 (by kernel_rfl) (by kernel_rfl) (by kernel_rfl) (e := Extern.MathFloor.toIntegral "math.RoundToEven" .even) (by kernel_rfl)]
  have e : Extern.MathFloor.toIntegral "math.RoundToEven" .even #[.float .f64 b] = Ieee.Datum.casesOn (motive := fun _ => Sem Value) (FloatKind.f64.decode b) (fun s k l => pure (.float .f64 (FloatKind.f64.encode ((Datum.number s k l).integral .even)))) (fun s => pure (.float .f64 (FloatKind.f64.encode ((Datum.infinity s).integral .even))))
      (fun s t => if FloatKind.f64.format.quiet t = t then pure (.float .f64 b) else do
        let kept ← choose (.extern "math.Floor,Ceil,Trunc,RoundToEven.signallingNaN kept" 2)
        pure (.float .f64 (if kept == 1 then b else FloatKind.f64.encode (.nan s (FloatKind.f64.format.quiet t))))) := by
    show (match FloatKind.f64.decode b with | .nan s t => _ | d => _) = _
    cases FloatKind.f64.decode b <;> rfl
  rw [e]
  unfold rte
  cases hd : FloatKind.f64.decode b with
  | nan s t => rw [hd] at h; cases h
  | infinity s => rfl
  | number s m p => rfl
theorem whole_val {b : Nat} {i : Int} (h : (FloatKind.f64.decode b).toInt .zero = some i) (h1 : -1048576 ≤ i) (h2 : i ≤ 1048576) : floatToIntVal .f64 b .i64 = some i := by
  unfold floatToIntVal
  rw [h]
  have : IntKind.i64.min ≤ i ∧ i ≤ IntKind.i64.max := by
    have a : IntKind.i64.min = -9223372036854775808 := rfl
    have b : IntKind.i64.max = 9223372036854775807 := rfl
    rw [a, b]; omega
  show (if IntKind.i64.min ≤ i ∧ i ≤ IntKind.i64.max then some i else none) = some i
  rw [if_pos this]
/-- The nearest whole number from 0 to 50. -/
def nearP (v : Nat) : Int := if isNaN v then 0 else if lt64 (rte (wid v)) 0 then 0 else if gt64 (rte (wid v)) (floatOfInt .f64 50) then 50 else ((FloatKind.f64.decode (rte (wid v))).toInt .zero).getD 0
theorem rd_0 : FloatKind.f64.decode 0 = .number false 0 (-1074) := by decide
theorem rd_50 : FloatKind.f64.decode (floatOfInt .f64 50) = .number false 7036874417766400 (-47) := by decide
theorem near_in {v : Nat} (h : isNaN v = false) (h1 : lt64 (rte (wid v)) 0 = false) (h2 : gt64 (rte (wid v)) (floatOfInt .f64 50) = false) :
    (FloatKind.f64.decode (rte (wid v))).toInt .zero = some (nearP v) ∧ -1048576 ≤ nearP v ∧ nearP v ≤ 1048576 := by
  have hn : nearP v = ((FloatKind.f64.decode (rte (wid v))).toInt .zero).getD 0 := by unfold nearP; rw [h, h1, h2]; rfl
  rw [hn]
  have hnn := write64_nn (integral_nn .even (wid_ok h).2)
  have o1 : (FloatKind.f64.decode (rte (wid v))).order (FloatKind.f64.decode 0) ≠ some .lt := ne_of_beq h1
  have o2 : (FloatKind.f64.decode (rte (wid v))).order (FloatKind.f64.decode (floatOfInt .f64 50)) ≠ some .gt := ne_of_beq h2
  rw [rd_0] at o1
  rw [rd_50] at o2
  change (FloatKind.f64.decode (rte (wid v))).isNaN = false at hnn
  clear hn h1 h2
  cases hd : FloatKind.f64.decode (rte (wid v)) with
  | nan s t => rw [hd] at hnn; cases hnn
  | infinity s => rw [hd] at o1 o2; cases s <;> simp [Datum.order] at o1 o2
  | number s m p =>
    rw [hd] at o1 o2
    have hle := trunc_le (V := 50) (q := -47) (by omega) (order_scaled (.inr o1) o2)
    have e : (Datum.number s m p).toInt .zero = some (signed s (Toward.zero.cut s (m <<< p.toNat) (-p).toNat) 0) := rfl
    rw [e, cut_zero]
    refine ⟨rfl, ?_⟩
    rw [Option.getD_some, signed_pow]
    generalize (m <<< p.toNat) / 2 ^ (-p).toNat = z at hle
    cases s <;> simp <;> omega
set_option maxRecDepth 100000 in
set_option maxHeartbeats 2000000 in
theorem num_Near50 (v : Nat) (W : World) : Calls Tryz.prog 14 #[.float .f32 v, .int .i64 0, .int .i64 50] W fun e w' => ∃ b, e = .returned (.tuple #[.int .i64 (nearP v), .bool b, .int .i64 0]) ∧ W = w' := by
  cases h : isNaN v
  · have hv : (FloatKind.f32.format.order v v != some .eq) = false := h
    obtain ⟨w1, w2⟩ := wid_ok h
    have c1 := fun w => run_convert_float_float (P := Tryz.prog) w 22 76 .f32 .f64 v (wid v) (by kernel_rfl) Tryz.underlying76 w1
    have c2 := fun w => run_rte w2 w
    cases h1 : lt64 (rte (wid v)) 0
    · have g1 : (FloatKind.f64.format.order (rte (wid v)) (floatOfInt .f64 0) == some .lt) = false := h1
      cases h2 : gt64 (rte (wid v)) (floatOfInt .f64 50)
      · have g2 : (FloatKind.f64.format.order (rte (wid v)) (floatOfInt .f64 50) == some .gt) = false := h2
        obtain ⟨k1, k2, k3⟩ := near_in h h1 h2
        have c3 := fun w => run_convert_float_int (P := Tryz.prog) w 76 3 .f64 .i64 (rte (wid v)) (nearP v) (by kernel_rfl) Tryz.underlying3 (whole_val k1 k2 k3)
        clear h1 h2 k1 k2 k3 w1 w2 h
        generalize nearP v = z at *
        generalize rte (wid v) = r at *
        generalize wid v = y at *
        go_enter Tryz.func14, Tryz.ntmps14
        go_wp2_with fail
        refine bodyPost_ret (v := .tuple #[.int .i64 z, .bool true, .int .i64 0]) (by simp [results, Tryz.results14, go_sem]) rfl ⟨true, rfl, rfl⟩
      · have g2 : (FloatKind.f64.format.order (rte (wid v)) (floatOfInt .f64 50) == some .gt) = true := h2
        have hz : nearP v = 50 := by unfold nearP; rw [h, h1, h2]; rfl
        rw [hz]
        clear h1 h2 hz w1 w2 h
        generalize rte (wid v) = r at *
        generalize wid v = y at *
        go_enter Tryz.func14, Tryz.ntmps14
        go_wp2_with fail
        refine bodyPost_ret (v := .tuple #[.int .i64 50, .bool false, .int .i64 0]) (by simp [results, Tryz.results14, go_sem]) rfl ⟨false, rfl, rfl⟩
    · have g1 : (FloatKind.f64.format.order (rte (wid v)) (floatOfInt .f64 0) == some .lt) = true := h1
      have hz : nearP v = 0 := by unfold nearP; rw [h, h1]; rfl
      rw [hz]
      clear h1 hz w1 w2 h
      generalize rte (wid v) = r at *
      generalize wid v = y at *
      go_enter Tryz.func14, Tryz.ntmps14
      go_wp2_with fail
      refine bodyPost_ret (v := .tuple #[.int .i64 0, .bool false, .int .i64 0]) (by simp [results, Tryz.results14, go_sem]) rfl ⟨false, rfl, rfl⟩
  · have hv : (FloatKind.f32.format.order v v != some .eq) = true := h
    have hz : nearP v = 0 := by unfold nearP; rw [h]; rfl
    rw [hz]
    clear hz h
    go_enter Tryz.func14, Tryz.ntmps14
    go_wp2_with fail
    refine bodyPost_ret (v := .tuple #[.int .i64 0, .bool false, .int .i64 0]) (by simp [results, Tryz.results14, go_sem]) rfl ⟨false, rfl, rfl⟩
set_option maxRecDepth 100000 in
set_option maxHeartbeats 2000000 in
theorem ref_Near50 (v : Nat) (W : World) : Calls Tryz.prog 21 #[.float .f32 v, .int .i64 0, .int .i64 50] W fun e w' => ∃ b, e = .returned (.tuple #[.int .i64 (nearP v), .bool b]) ∧ W = w' := by
  cases h : isNaN v
  · have hv : (FloatKind.f32.format.order v v != some .eq) = false := h
    obtain ⟨w1, w2⟩ := wid_ok h
    have c1 := fun w => run_convert_float_float (P := Tryz.prog) w 22 76 .f32 .f64 v (wid v) (by kernel_rfl) Tryz.underlying76 w1
    have c2 := fun w => run_rte w2 w
    cases h1 : lt64 (rte (wid v)) 0
    · have g1 : (FloatKind.f64.format.order (rte (wid v)) (floatOfInt .f64 0) == some .lt) = false := h1
      cases h2 : gt64 (rte (wid v)) (floatOfInt .f64 50)
      · have g2 : (FloatKind.f64.format.order (rte (wid v)) (floatOfInt .f64 50) == some .gt) = false := h2
        obtain ⟨k1, k2, k3⟩ := near_in h h1 h2
        have c3 := fun w => run_convert_float_int (P := Tryz.prog) w 76 3 .f64 .i64 (rte (wid v)) (nearP v) (by kernel_rfl) Tryz.underlying3 (whole_val k1 k2 k3)
        clear h1 h2 k1 k2 k3 w1 w2 h
        generalize nearP v = z at *
        generalize rte (wid v) = r at *
        generalize wid v = y at *
        go_enter Tryz.func21, Tryz.ntmps21
        go_wp2_with fail
        go_ret2
        exact ⟨true, rfl, rfl⟩
      · have g2 : (FloatKind.f64.format.order (rte (wid v)) (floatOfInt .f64 50) == some .gt) = true := h2
        have hz : nearP v = 50 := by unfold nearP; rw [h, h1, h2]; rfl
        rw [hz]
        clear h1 h2 hz w1 w2 h
        generalize rte (wid v) = r at *
        generalize wid v = y at *
        go_enter Tryz.func21, Tryz.ntmps21
        go_wp2_with fail
        go_ret2
        exact ⟨false, rfl, rfl⟩
    · have g1 : (FloatKind.f64.format.order (rte (wid v)) (floatOfInt .f64 0) == some .lt) = true := h1
      have hz : nearP v = 0 := by unfold nearP; rw [h, h1]; rfl
      rw [hz]
      clear h1 hz w1 w2 h
      generalize rte (wid v) = r at *
      generalize wid v = y at *
      go_enter Tryz.func21, Tryz.ntmps21
      go_wp2_with fail
      go_ret2
      exact ⟨false, rfl, rfl⟩
  · have hv : (FloatKind.f32.format.order v v != some .eq) = true := h
    have hz : nearP v = 0 := by unfold nearP; rw [h]; rfl
    rw [hz]
    clear hz h
    go_enter Tryz.func21, Tryz.ntmps21
    go_wp2_with fail
    go_ret2
    exact ⟨false, rfl, rfl⟩
set_option maxRecDepth 100000 in
theorem ref_conv1 (n : Int) (W : World) : Calls Tryz.prog 22 #[.int .i64 n] W fun e w' => e = .returned (.float .f32 (floatOfInt .f32 n)) ∧ W = w' := by
  go_enter Tryz.func22, Tryz.ntmps22
  go_wp2_with fail
  go_ret
  exact ⟨rfl, rfl⟩
set_option maxRecDepth 100000 in
/-- The closure of the reference's Between. -/
theorem ref_mixC (a b t p : Nat) {T : TypeId} (W : World) (hp : Bx W p T #[.float .f32 t]) : Calls Tryz.prog 18 #[.float .f32 a, .float .f32 b, .pointer (some ⟨p, 0, none⟩)] W fun e w' => e = .returned (.float .f32 (lerpV a b t)) ∧ Below W.heap.size W w' := by
  have hq := hp.all.1 0
  simp only [List.getElem?_toArray, List.getElem?_cons_zero] at hq
  have KL := Lib.hid (fun w => ref_LerpOf a b t w)
  have HC := Lib.hid (canon_lerpV a b t)
  go_enter Tryz.func18, Tryz.ntmps18
  go_wp2_with fail
  refine (KL.out _).mono ?_
  rintro e w1 ⟨rfl, hb⟩
  have HB := Lib.hid hb
  clear hb
  go_wp2_with fail
  refine (ref_Fix _ _).mono ?_
  rintro e w2 ⟨rfl, rfl⟩
  go_wp2_with fail
  go_ret
  exact ⟨by rw [HC.out]; rfl, HB.out⟩
/-- Points mixed: whole numbers again at both ends. -/
def ptMix (n m : Int) (t : Nat) : Int := nearP (lerpV (floatOfInt .f32 n) (floatOfInt .f32 m) t)
theorem near_self : ∀ n : Nat, n < 51 → nearP (floatOfInt .f32 (n : Int)) = (n : Int) ∧ canon (floatOfInt .f32 (n : Int)) = floatOfInt .f32 (n : Int) := by decide +kernel
end Go.Proofs.YtpmbmpfkoffioaaGreatDoor
