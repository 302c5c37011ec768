/- grade.cloned: a grade whose curves lie in new memory. (printed by gen_gnn.py) -/
import Derived.Test.YticekgnmiaidjaaGreatDoorGnK
import Derived.Test.YticekgnmiaidjaaGreatDoorLerp
import Derived.Test.YticekgnmiaidjaaGreatDoorDbQ
import Derived.Test.YticekgnmiaidjaaGreatDoorFst
import Derived.Lib.SliceRun
import Derived.Laws.CopyOwn
namespace Go.Proofs.YticekgnmiaidjaaGreatDoor

section
open Go.RowKit Go.Lib Ieee

theorem order_scaled {s : Bool} {m : Nat} {p : Int} {M : Nat} {q jj : Int} (hlo : (Datum.number s m p).order (.number true M q) ≠ some .lt ∨ (Datum.number s m p).order (.number false 0 jj) ≠ some .lt)
    (hhi : (Datum.number s m p).order (.number false M q) ≠ some .gt) : m * 2 ^ (p - min p q).toNat ≤ M * 2 ^ (q - min p q).toNat := by
  have key : ∀ x y : Int, (some (compare x y) ≠ some Ordering.lt → y ≤ x) ∧ (some (compare x y) ≠ some Ordering.gt → x ≤ y) := fun x y =>
    ⟨fun h => Int.not_lt.1 fun h2 => h (by rw [Int.compare_eq_lt.2 h2]), fun h => Int.not_lt.1 fun h2 => h (by rw [Int.compare_eq_gt.2 h2])⟩
  simp only [Datum.order, signed_pow] at hlo hhi
  have h2 := (key _ _).2 hhi
  cases s
  · simp only [Bool.false_eq_true, if_false] at h2
    exact_mod_cast h2
  · rcases hlo with h | h
    · have h1 := (key _ _).1 h
      simp only [if_true] at h1
      rw [Int.neg_mul, Int.neg_mul] at h1
      have h1 := Int.neg_le_neg_iff.1 h1
      exact_mod_cast h1
    · have h1 := (key _ _).1 h
      simp only [if_true, Bool.false_eq_true, if_false, Int.neg_mul] at h1
      have h3 : (m : Int) * 2 ^ (p - min p jj).toNat ≤ 0 := by
        have : ((0 : Nat) : Int) * 2 ^ (jj - min p jj).toNat = 0 := by simp
        omega
      have h4 : m * 2 ^ (p - min p jj).toNat ≤ 0 := by exact_mod_cast h3
      have hp := Nat.two_pow_pos (p - min p jj).toNat
      have hm : m = 0 := by
        rcases Nat.eq_zero_or_pos m with h0 | h0
        · exact h0
        · have := Nat.mul_pos h0 hp; omega
      rw [hm, Nat.zero_mul]; exact Nat.zero_le _
theorem trunc_le {m V : Nat} {p q : Int} (hq : q ≤ 0) (h : m * 2 ^ (p - min p q).toNat ≤ (V * 2 ^ (-q).toNat) * 2 ^ (q - min p q).toNat) : (m <<< p.toNat) / 2 ^ (-p).toNat ≤ V := by
  rw [Nat.shiftLeft_eq]
  rw [Nat.mul_assoc, ← Nat.pow_add, show (-q).toNat + (q - min p q).toNat = (-min p q).toNat by omega] at h
  by_cases h0 : 0 ≤ p
  · rw [show (-p).toNat = 0 by omega, Nat.pow_zero, Nat.div_one]
    rw [show min p q = q by omega, show (p - q).toNat = p.toNat + (-q).toNat by omega, Nat.pow_add, ← Nat.mul_assoc] at h
    exact Nat.le_of_mul_le_mul_right h (Nat.two_pow_pos _)
  · rw [show p.toNat = 0 by omega, Nat.pow_zero, Nat.mul_one]
    apply Nat.div_le_of_le_mul
    rw [show (-min p q).toNat = (-p).toNat + (p - min p q).toNat by omega, Nat.pow_add, ← Nat.mul_assoc] at h
    have := Nat.le_of_mul_le_mul_right h (Nat.two_pow_pos _)
    rw [Nat.mul_comm]; exact this
theorem ne_of_beq {o : Option Ordering} {a : Ordering} (h : (o == some a) = false) : o ≠ some a := fun e => by rw [e] at h; simp at h
theorem cut_zero (neg : Bool) (n drop : Nat) : Toward.zero.cut neg n drop = n / 2 ^ drop := by
  unfold Toward.cut
  simp only [Nat.shiftLeft_eq, Nat.one_mul, Bool.toNat_false, Nat.add_zero]
  by_cases h : drop ≤ n.log2 + 2
  · rw [Nat.min_eq_left h]
  · rw [Nat.min_eq_right (by omega)]
    have h1 : n < 2 ^ (n.log2 + 2) := Nat.lt_of_lt_of_le Nat.lt_log2_self (Nat.pow_le_pow_right (by omega) (by omega))
    have h2 : n < 2 ^ drop := Nat.lt_of_lt_of_le h1 (Nat.pow_le_pow_right (by omega) (by omega))
    rw [Nat.div_eq_of_lt h1, Nat.div_eq_of_lt h2]
def wid (v : Nat) : Nat := (floatToFloatBits .f32 v .f64).getD 0
def rte (b : Nat) : Nat := FloatKind.f64.encode ((FloatKind.f64.decode b).integral .even)
def lt64 (a b : Nat) : Bool := FloatKind.f64.format.order a b == some .lt
def gt64 (a b : Nat) : Bool := FloatKind.f64.format.order a b == some .gt
theorem write64_nn {d : Datum} (h : d.isNaN = false) : (FloatKind.f64.decode (FloatKind.f64.encode d)).isNaN = false := by
  cases d with
  | nan => cases h
  | infinity s =>
    show (FloatKind.f64.format.read (FloatKind.f64.format.word s FloatKind.f64.format.infRung)).isNaN = false
    rw [read_word _ s _ FloatKind.f64.format.infRung_lt, f64_inf, f64_binade, if_neg (by omega), if_neg (by omega), if_pos rfl]; rfl
  | number s m p =>
    show (FloatKind.f64.format.read (FloatKind.f64.format.nearest s m p)).isNaN = false
    rcases read_nearest FloatKind.f64.format s m p with ⟨k, l, h, _⟩ | h <;> rw [h] <;> rfl
theorem wid_ok {v : Nat} (h : isNaN v = false) : floatToFloatBits .f32 v .f64 = some (wid v) ∧ (FloatKind.f64.decode (wid v)).isNaN = false := by
  rcases cases_nn h with ⟨s, m, i, hr⟩ | ⟨s, hr⟩
  · obtain ⟨r, k, l, h1, h2, _⟩ := widen v s m i hr
    have hw : wid v = r := by unfold wid; rw [h1]; rfl
    rw [hw]
    exact ⟨h1, by rw [h2]; rfl⟩
  · have h1 : floatToFloatBits .f32 v .f64 = some (FloatKind.f64.encode (.infinity s)) := by
      unfold floatToFloatBits
      rw [if_neg (by decide), show FloatKind.f32.decode v = .infinity s from hr]
    have hw : wid v = FloatKind.f64.encode (.infinity s) := by unfold wid; rw [h1]; rfl
    rw [hw]
    exact ⟨h1, write64_nn rfl⟩
theorem integral_nn {d : Datum} (w : Toward) (h : d.isNaN = false) : (d.integral w).isNaN = false := by
  cases d with
  | nan => cases h
  | infinity s => rfl
  | number s m p => rfl
theorem whole_val {b : Nat} {i : Int} (h : (FloatKind.f64.decode b).toInt .zero = some i) (h1 : -1048576 ≤ i) (h2 : i ≤ 1048576) : floatToIntVal .f64 b .i64 = some i := by
  unfold floatToIntVal
  rw [h]
  have : IntKind.i64.min ≤ i ∧ i ≤ IntKind.i64.max := by
    have a : IntKind.i64.min = -9223372036854775808 := rfl
    have b : IntKind.i64.max = 9223372036854775807 := rfl
    rw [a, b]; omega
  show (if IntKind.i64.min ≤ i ∧ i ≤ IntKind.i64.max then some i else none) = some i
  rw [if_pos this]
/-- The nearest whole number from 0 to 50. -/
def nearP (v : Nat) : Int := if isNaN v then 0 else if lt64 (rte (wid v)) 0 then 0 else if gt64 (rte (wid v)) (floatOfInt .f64 50) then 50 else ((FloatKind.f64.decode (rte (wid v))).toInt .zero).getD 0
theorem rd_0 : FloatKind.f64.decode 0 = .number false 0 (-1074) := by decide
theorem rd_50 : FloatKind.f64.decode (floatOfInt .f64 50) = .number false 7036874417766400 (-47) := by decide
theorem near_in {v : Nat} (h : isNaN v = false) (h1 : lt64 (rte (wid v)) 0 = false) (h2 : gt64 (rte (wid v)) (floatOfInt .f64 50) = false) :
    (FloatKind.f64.decode (rte (wid v))).toInt .zero = some (nearP v) ∧ -1048576 ≤ nearP v ∧ nearP v ≤ 1048576 := by
  have hn : nearP v = ((FloatKind.f64.decode (rte (wid v))).toInt .zero).getD 0 := by unfold nearP; rw [h, h1, h2]; rfl
  rw [hn]
  have hnn := write64_nn (integral_nn .even (wid_ok h).2)
  have o1 : (FloatKind.f64.decode (rte (wid v))).order (FloatKind.f64.decode 0) ≠ some .lt := ne_of_beq h1
  have o2 : (FloatKind.f64.decode (rte (wid v))).order (FloatKind.f64.decode (floatOfInt .f64 50)) ≠ some .gt := ne_of_beq h2
  rw [rd_0] at o1
  rw [rd_50] at o2
  change (FloatKind.f64.decode (rte (wid v))).isNaN = false at hnn
  clear hn h1 h2
  cases hd : FloatKind.f64.decode (rte (wid v)) with
  | nan s t => rw [hd] at hnn; cases hnn
  | infinity s => rw [hd] at o1 o2; cases s <;> simp [Datum.order] at o1 o2
  | number s m p =>
    rw [hd] at o1 o2
    have hle := trunc_le (V := 50) (q := -47) (by omega) (order_scaled (.inr o1) o2)
    have e : (Datum.number s m p).toInt .zero = some (signed s (Toward.zero.cut s (m <<< p.toNat) (-p).toNat) 0) := rfl
    rw [e, cut_zero]
    refine ⟨rfl, ?_⟩
    rw [Option.getD_some, signed_pow]
    generalize (m <<< p.toNat) / 2 ^ (-p).toNat = z at hle
    cases s <;> simp <;> omega
/-- Points mixed: whole numbers again at both ends. -/
def ptMix (n m : Int) (t : Nat) : Int := nearP (lerpV (floatOfInt .f32 n) (floatOfInt .f32 m) t)
theorem near_self : ∀ n : Nat, n < 51 → nearP (floatOfInt .f32 (n : Int)) = (n : Int) ∧ canon (floatOfInt .f32 (n : Int)) = floatOfInt .f32 (n : Int) := by decide +kernel
end

section
open Go.RowKit Go.Lib

theorem Sl.dest {w : World} {v : Value} {xs : List Nat} (h : Sl w v xs) : ∃ a c, v = .slice a xs.length c ∧ (xs = [] ∨ ∃ b o, a = some ⟨b, o, none⟩ ∧ Rd w b o xs) := by
  rcases h with ⟨b, o, c, h1, _, h3⟩ | ⟨h0, a, c, h1⟩
  · exact ⟨_, c, h1, .inr ⟨b, o, rfl, h3⟩⟩
  · exact ⟨a, c, by rw [h1, h0]; rfl, .inl h0⟩
theorem OwF.sl {B : Nat} {w : World} {v : Value} {xs : List Nat} (h : OwF B w v xs) : Sl w v xs := by
  rcases h.2 with ⟨h0, h1⟩ | ⟨g, cap, cur, e1, e2, e3, e4, e5, e6, e7⟩
  · exact .inr ⟨List.length_eq_zero_iff.1 h1, _, _, h0⟩
  · by_cases hx : xs = []
    · exact .inr ⟨hx, _, cap, by rw [e1, hx]; rfl⟩
    · refine .inl ⟨g, 0, cap, e1, hx, (Array.getElem?_eq_some_iff.1 e3).1, fun k hk => ?_⟩
      have hb : Bx w g 23 cur := e3
      rw [hb.all.1, Nat.zero_add]
      have hq : (xs.map (Value.float .f32))[k]? = some (.float .f32 (xs.getD k 0)) := by
        rw [List.getElem?_map, List.getElem?_eq_getElem hk, List.getD_eq_getElem?_getD, List.getElem?_eq_getElem hk]; rfl
      rw [← e7, List.getElem?_take] at hq
      split at hq
      · rw [Array.getElem?_toList] at hq; exact hq
      · cases hq
theorem OwF.own {B : Nat} {w : World} {v : Value} {xs : List Nat} (h : OwF B w v xs) {b : Nat} (hb : v.ownBlock = some b) : B ≤ b ∧ b < w.heap.size ∧ ∃ cur, Bx w b 23 cur := by
  rcases h.2 with ⟨h0, h1⟩ | ⟨g, cap, cur, e1, e2, e3, e4⟩
  · rw [h0] at hb; cases hb
  · rw [e1] at hb
    simp only [Value.ownBlock, Option.some.injEq] at hb
    subst hb
    exact ⟨e2, (Array.getElem?_eq_some_iff.1 e3).1, cur, e3⟩
theorem OwF.at {B : Nat} {w w' : World} {v : Value} {xs : List Nat} (h : OwF B w v xs) (hk : ∀ b cur, v.ownBlock = some b → Bx w b 23 cur → w'.heap[b]? = w.heap[b]?) : OwF B w' v xs := by
  refine ⟨h.1, ?_⟩
  rcases h.2 with h0 | ⟨g, cap, cur, e1, e2, e3, e4⟩
  · exact .inl h0
  · exact .inr ⟨g, cap, cur, e1, e2, (hk g cur (by rw [e1]; rfl) e3).trans e3, e4⟩
theorem OwF.put {B p o : Nat} {w : World} {v u : Value} {xs : List Nat} {T : TypeId} {cs : Array Value} (h : OwF B w v xs) (hx : Bx w p T cs) (ht : T ≠ 23) : OwF B (w.setCell ⟨p, o, none⟩ u) v xs :=
  h.at fun b cur _ hb => by
    rw [Below.heap_setCell]
    exact hb.ne hx (Ne.symm ht)
set_option maxRecDepth 100000 in
set_option maxHeartbeats 4000000 in
/-- slices.Clone at singles, of any slice. -/
theorem sl_CloneF (v : Value) (xs : List Nat) (W : World) (hs : Sl W v xs) (hn : xs.length ≤ 1000000) : Calls Tryz.prog 68 #[v] W fun e w' => ∃ v', e = .returned v' ∧ OwF W.heap.size w' v' xs ∧ Below W.heap.size W w' := by
  obtain ⟨i0, hi, hz0, hz1, hz2⟩ := info_parts infoF
  have q22 : ∀ (w : World) (a : Option Addr) (n c n' c' : Nat), (binOp .eql 37 (.slice a n c) (.slice none n' c')).run Tryz.prog w = .ok (.bool a.isNone) w := fun w a n c n' c' => Lib.run_eql_slice_nil w _ _ a n c n' c' Tryz.underlying37
  obtain ⟨a, c, rfl, hrd⟩ := hs.dest
  have hml : maxLen = 9223372036854775807 := rfl
  cases a with
  | none =>
    have h0 : xs = [] := by
      rcases hrd with h | ⟨b, o, h, _⟩
      · exact h
      · cases h
    subst h0
    go_enter Tryz.func68, Tryz.ntmps68
    go_wp2_with fail
    go_ret
    exact ⟨_, rfl, ⟨rfl, .inl ⟨rfl, rfl⟩⟩, Below.refl _ _⟩
  | some ad =>
    have hcell : ∀ (j : Nat) (u : Value), (xs.map (Value.float .f32))[j]? = some u → W.cell? (ad.add j) = some u := by
      intro j u hj
      have hlt := (List.getElem?_eq_some_iff.1 hj).1
      rw [List.length_map] at hlt
      rcases hrd with h | ⟨b, o, h, hr⟩
      · rw [h] at hlt; simp at hlt
      · obtain rfl := Option.some.inj h
        rw [add_none, hr.2 j hlt, ← hj]
        simp [hlt]
    obtain ⟨n, hxn⟩ : ∃ n, xs.length = n := ⟨_, rfl⟩
    rw [hxn] at hn ⊢
    have HC := Lib.hid (And.intro hcell hxn)
    clear hcell hrd hs hxn
    go_enter Tryz.func68, Tryz.ntmps68
    go_wp2_with (at_builtin; refine wpList_append_own _ rfl _ _ 37 rfl W.heap.size 23 i0 (.float .f32 0) 1 4 Tryz.underlying37 hi hz0 hz1 hz2 rfl (by decide) _ _ _ rfl (World.ownsRow_made W #[] 0 (Nat.le_refl _) (Nat.zero_le _) rfl) ad n c (xs.map (Value.float .f32)) rfl ?qc1 ?qc2 ?qc3 ?qc4 ?qc5 ?qc6 ?_)
    case qc1 => rw [List.length_map, HC.out.2, Nat.mul_one]
    case qc2 =>
      intro j u hj
      exact Lib.cell?_alloc_some _ (HC.out.1 j u hj)
    case qc3 =>
      intro u hu
      obtain ⟨x, _, rfl⟩ := List.mem_map.1 hu
      rfl
    case qc4 => omega
    case qc5 => omega
    case qc6 => exact Nat.le_trans (Nat.le_succ _) (Nat.le_of_eq (Array.size_push _).symm)
    intro v' w1 hown hgrow hnil
    have HO := Lib.hid (And.intro hown hgrow)
    obtain ⟨pa, na, ca, hv'⟩ : ∃ a n c, v' = .slice a n c := by
      rcases hown.2 with ⟨h0, _⟩ | ⟨g, cap, cur, h0, _⟩
      · exact ⟨_, _, _, h0⟩
      · exact ⟨_, _, _, h0⟩
    subst hv'
    clear hown hgrow hnil
    go_wp2
    go_ret
    refine ⟨_, rfl, ?_, ?_⟩
    · have h := HO.out.1
      unfold OwF
      rw [HC.out.2]
      exact h
    · exact ((Below.refl _ W).alloc (Nat.le_refl _) _).grown HO.out.2 (Nat.le_trans (Nat.le_succ _) (Nat.le_of_eq (Array.size_push _).symm)) (by intro k hk; simp only [Value.ownBlock, Option.some.injEq] at hk; omega)

/-- As before but for the block p and new ones. -/
structure Kx (p : Nat) (a b : World) : Prop where
  os : b.os = a.os
  tape : b.tape = a.tape
  output : b.output = a.output
  size : a.heap.size ≤ b.heap.size
  block : ∀ k, k < a.heap.size → k ≠ p → b.heap[k]? = a.heap[k]?
theorem Kx.refl (p : Nat) (a : World) : Kx p a a := ⟨rfl, rfl, rfl, Nat.le_refl _, fun _ _ _ => rfl⟩
theorem Kx.call {p : Nat} {a b c : World} (h : Kx p a b) (hb : Below b.heap.size b c) : Kx p a c :=
  ⟨hb.os.trans h.os, hb.tape.trans h.tape, hb.output.trans h.output, Nat.le_trans h.size hb.size, fun k hk hp => (hb.block k (Nat.lt_of_lt_of_le hk h.size)).trans (h.block k hk hp)⟩
theorem Kx.put {p o : Nat} {a b : World} {v : Value} (h : Kx p a b) : Kx p a (b.setCell ⟨p, o, none⟩ v) :=
  have k := (Only.refl p b).set o v
  ⟨k.os.trans h.os, k.tape.trans h.tape, k.output.trans h.output, by rw [k.size]; exact h.size, fun q hq hp => (k.block q hp).trans (h.block q hq hp)⟩
theorem Kx.trans {p : Nat} {a b c : World} (h : Kx p a b) (g : Kx p b c) : Kx p a c :=
  ⟨g.os.trans h.os, g.tape.trans h.tape, g.output.trans h.output, Nat.le_trans h.size g.size, fun k hk hp => (g.block k (Nat.lt_of_lt_of_le hk h.size) hp).trans (h.block k hk hp)⟩
theorem below_kx {B p : Nat} {w a b : World} (h : Below B w a) (k : Kx p a b) (hp : B ≤ p) (hs : B ≤ a.heap.size) : Below B w b :=
  ⟨k.os.trans h.os, k.tape.trans h.tape, k.output.trans h.output, Nat.le_trans h.size k.size, fun q hq => (k.block q (Nat.lt_of_lt_of_le hq hs) (by omega)).trans (h.block q hq)⟩
theorem Kx.bx {p : Nat} {a b : World} (k : Kx p a b) {q : Nat} {T : TypeId} {cs : Array Value} (h : Bx a q T cs) (hp : q ≠ p) : Bx b q T cs := (k.block q h.lt hp).trans h

/-- The two slices of curve q / 2; where they lie. -/
def cvV (g : Gd) (q : Nat) : List Nat := if q % 2 = 0 then (g.cvs.getD (q / 2) ⟨0, [], []⟩).xs else (g.cvs.getD (q / 2) ⟨0, [], []⟩).ys
def cvC (q : Nat) : Nat := 20 + q / 2 * 3 + (1 + q % 2)
/-- The first m slices are own rows, apart. -/
structure CS (B : Nat) (g : Gd) (m : Nat) (C : Array Value) (w : World) : Prop where
  row : ∀ q, q < m → ∃ v, C[cvC q]? = some v ∧ OwF B w v (cvV g q)
  apart : ∀ q q' v v' b, q < m → q' < m → q ≠ q' → C[cvC q]? = some v → C[cvC q']? = some v' → v.ownBlock = some b → v'.ownBlock ≠ some b
/-- A round under way: the clones v4 and v7, laid or not. -/
structure CE (p : Nat) (W2 : World) (Cj : Array Value) (X Y : Nat) (xs ys : List Nat) (d4 d7 d11 d15 : Bool) (v4 v7 : Value) (w : World) : Prop where
  kx : Kx p W2 w
  bx : Bx w p 46 (if d15 then (if d11 then Cj.setIfInBounds X v4 else Cj).setIfInBounds Y v7 else if d11 then Cj.setIfInBounds X v4 else Cj)
  a4 : d4 = true → OwF W2.heap.size w v4 xs
  a7 : d7 = true → OwF W2.heap.size w v7 ys
  ap : d4 = true → d7 = true → ∀ b, v4.ownBlock = some b → v7.ownBlock ≠ some b
  o11 : d11 = true → d4 = true
  o15 : d15 = true → d7 = true
section
variable {p : Nat} {W2 : World} {Cj : Array Value} {X Y : Nat} {xs ys : List Nat} {d4 d7 d11 d15 : Bool} {v4 v7 : Value} {w w' : World}
theorem CE.keep (h : CE p W2 Cj X Y xs ys d4 d7 d11 d15 v4 v7 w) (hb : Below w.heap.size w w') : CE p W2 Cj X Y xs ys d4 d7 d11 d15 v4 v7 w' :=
  ⟨h.kx.call hb, h.bx.keep hb, fun e => (h.a4 e).keep hb, fun e => (h.a7 e).keep hb, h.ap, h.o11, h.o15⟩
theorem CE.set4 (h : CE p W2 Cj X Y xs ys d4 d7 d11 d15 v4 v7 w) (h4 : d4 = false) {u : Value} (ho : OwF w.heap.size w' u xs) (hb : Below w.heap.size w w') : CE p W2 Cj X Y xs ys true d7 d11 d15 u v7 w' := by
  have k := h.keep hb
  have h11 : d11 = false := by
    cases d11
    · rfl
    · have := h.o11 rfl; rw [h4] at this; cases this
  subst h11
  refine ⟨k.kx, k.bx, fun _ => ho.mono h.kx.size, k.a7, fun _ e7 b e1 e2 => ?_, fun e => (by cases e), k.o15⟩
  have h1 := (ho.own e1).1
  have h2 := ((h.a7 e7).own e2).2.1
  omega
theorem CE.set7 (h : CE p W2 Cj X Y xs ys d4 d7 d11 d15 v4 v7 w) (h7 : d7 = false) {u : Value} (ho : OwF w.heap.size w' u ys) (hb : Below w.heap.size w w') : CE p W2 Cj X Y xs ys d4 true d11 d15 v4 u w' := by
  have k := h.keep hb
  have h15 : d15 = false := by
    cases d15
    · rfl
    · have := h.o15 rfl; rw [h7] at this; cases this
  subst h15
  refine ⟨k.kx, k.bx, k.a4, fun _ => ho.mono h.kx.size, fun e4 _ b e1 e2 => ?_, k.o11, fun e => (by cases e)⟩
  have h1 := (ho.own e2).1
  have h2 := ((h.a4 e4).own e1).2.1
  omega
theorem CE.set11 (h : CE p W2 Cj X Y xs ys d4 d7 d11 d15 v4 v7 w) (h4 : d4 = true) (h11 : d11 = false) (hXY : X ≠ Y) : CE p W2 Cj X Y xs ys d4 d7 true d15 v4 v7 (w.setCell ⟨p, X, none⟩ v4) := by
  subst h11
  refine ⟨h.kx.put, ?_, fun e => (h.a4 e).put h.bx (by decide), fun e => (h.a7 e).put h.bx (by decide), h.ap, fun _ => h4, h.o15⟩
  have := h.bx.set X v4
  cases d15
  · exact this
  · rw [if_pos rfl, if_neg (by decide)] at this
    rw [if_pos rfl, if_pos rfl, Array.setIfInBounds_comm _ _ hXY]
    exact this
theorem CE.set15 (h : CE p W2 Cj X Y xs ys d4 d7 d11 d15 v4 v7 w) (h7 : d7 = true) (h15 : d15 = false) : CE p W2 Cj X Y xs ys d4 d7 d11 true v4 v7 (w.setCell ⟨p, Y, none⟩ v7) := by
  subst h15
  refine ⟨h.kx.put, ?_, fun e => (h.a4 e).put h.bx (by decide), fun e => (h.a7 e).put h.bx (by decide), h.ap, h.o11, fun _ => h7⟩
  have := h.bx.set Y v7
  rw [if_neg (by decide)] at this
  rw [if_pos rfl]
  exact this
end
theorem cvC_inj {q q' : Nat} (h : cvC q = cvC q') : q = q' := by unfold cvC at h; omega
theorem OwF.kx {B p : Nat} {a b : World} {v : Value} {xs : List Nat} {T : TypeId} {cs : Array Value} (h : OwF B a v xs) (k : Kx p a b) (hx : Bx a p T cs) (ht : T ≠ 23) : OwF B b v xs :=
  h.at fun g cur _ hg => k.block g hg.lt (hg.ne hx (Ne.symm ht))
theorem CS.step {B p : Nat} {g : Gd} {j : Nat} {Cj : Array Value} {w W2 w6 : World} {v4 v7 : Value} (h : CS B g (2 * j) Cj w) (hx : Bx w p 46 Cj) (hs : Cj.size = 49) (hj : j < 4) (h2 : Below w.heap.size w W2) (hB : B ≤ W2.heap.size)
    (e : CE p W2 Cj (cvC (2 * j)) (cvC (2 * j + 1)) (cvV g (2 * j)) (cvV g (2 * j + 1)) true true true true v4 v7 w6) : CS B g (2 * (j + 1)) ((Cj.setIfInBounds (cvC (2 * j)) v4).setIfInBounds (cvC (2 * j + 1)) v7) w6 := by
  have hne : cvC (2 * j) ≠ cvC (2 * j + 1) := fun h => by have := cvC_inj h; omega
  have hX : cvC (2 * j) < Cj.size := by rw [hs]; unfold cvC; omega
  have hY : cvC (2 * j + 1) < Cj.size := by rw [hs]; unfold cvC; omega
  have gX : ((Cj.setIfInBounds (cvC (2 * j)) v4).setIfInBounds (cvC (2 * j + 1)) v7)[cvC (2 * j)]? = some v4 := by
    rw [Array.getElem?_setIfInBounds_ne (Ne.symm hne), Array.getElem?_setIfInBounds_self_of_lt hX]
  have gY : ((Cj.setIfInBounds (cvC (2 * j)) v4).setIfInBounds (cvC (2 * j + 1)) v7)[cvC (2 * j + 1)]? = some v7 := by
    rw [Array.getElem?_setIfInBounds_self_of_lt (by simpa using hY)]
  have gO : ∀ q, q < 2 * j → ((Cj.setIfInBounds (cvC (2 * j)) v4).setIfInBounds (cvC (2 * j + 1)) v7)[cvC q]? = Cj[cvC q]? := fun q hq => by
    rw [Array.getElem?_setIfInBounds_ne (fun h => by have := cvC_inj h; omega), Array.getElem?_setIfInBounds_ne (fun h => by have := cvC_inj h; omega)]
  have old : ∀ q, q < 2 * j → ∃ v, Cj[cvC q]? = some v ∧ OwF B w v (cvV g q) ∧ OwF B w6 v (cvV g q) := fun q hq => by
    obtain ⟨v, e1, e2⟩ := h.row q hq
    exact ⟨v, e1, e2, (e2.keep h2).kx e.kx (hx.keep h2) (by decide)⟩
  have nw : ∀ v b, (v = v4 ∨ v = v7) → v.ownBlock = some b → W2.heap.size ≤ b := fun v b hv hb => by
    rcases hv with rfl | rfl
    · exact ((e.a4 rfl).own hb).1
    · exact ((e.a7 rfl).own hb).1
  constructor
  · intro q hq
    rcases (by omega : q < 2 * j ∨ q = 2 * j ∨ q = 2 * j + 1) with hq | rfl | rfl
    · obtain ⟨v, e1, _, e3⟩ := old q hq
      exact ⟨v, by rw [gO q hq]; exact e1, e3⟩
    · exact ⟨v4, gX, (e.a4 rfl).mono hB⟩
    · exact ⟨v7, gY, (e.a7 rfl).mono hB⟩
  · intro q q' v v' b hq hq' hqq hv hv' hb hb'
    have cls : ∀ q v, q < 2 * (j + 1) → ((Cj.setIfInBounds (cvC (2 * j)) v4).setIfInBounds (cvC (2 * j + 1)) v7)[cvC q]? = some v → (q < 2 * j ∧ Cj[cvC q]? = some v) ∨ (q = 2 * j ∧ v = v4) ∨ (q = 2 * j + 1 ∧ v = v7) := fun q v hq hv => by
      rcases (by omega : q < 2 * j ∨ q = 2 * j ∨ q = 2 * j + 1) with hq | rfl | rfl
      · rw [gO q hq] at hv; exact .inl ⟨hq, hv⟩
      · rw [gX] at hv; exact .inr (.inl ⟨rfl, (Option.some.inj hv).symm⟩)
      · rw [gY] at hv; exact .inr (.inr ⟨rfl, (Option.some.inj hv).symm⟩)
    have lo : ∀ q v b, q < 2 * j → Cj[cvC q]? = some v → v.ownBlock = some b → b < W2.heap.size := fun q v b hq hv hb => by
      obtain ⟨u, e1, e2, _⟩ := old q hq
      obtain rfl := Option.some.inj (e1.symm.trans hv)
      exact Nat.lt_of_lt_of_le (e2.own hb).2.1 h2.size
    rcases cls q v hq hv with ⟨a1, a2⟩ | ⟨a1, a2⟩ | ⟨a1, a2⟩ <;> rcases cls q' v' hq' hv' with ⟨b1, b2⟩ | ⟨b1, b2⟩ | ⟨b1, b2⟩
    · exact h.apart q q' v v' b a1 b1 hqq a2 b2 hb hb'
    · have := lo q v b a1 a2 hb; have := nw v' b (.inl b2) hb'; omega
    · have := lo q v b a1 a2 hb; have := nw v' b (.inr b2) hb'; omega
    · have := lo q' v' b b1 b2 hb'; have := nw v b (.inl a2) hb; omega
    · omega
    · subst a2; subst b2; exact e.ap rfl rfl b hb hb'
    · have := lo q' v' b b1 b2 hb'; have := nw v b (.inr a2) hb; omega
    · subst a2; subst b2; exact e.ap rfl rfl b hb' hb
    · omega
/-- All cells but those of the first m slices are the first grade's. -/
def Un (C Cj : Array Value) (m : Nat) : Prop := ∀ i, (∀ q, q < m → i ≠ cvC q) → Cj[i]? = C[i]?
theorem Un.step {C Cj : Array Value} {j : Nat} (h : Un C Cj (2 * j)) (v4 v7 : Value) : Un C ((Cj.setIfInBounds (cvC (2 * j)) v4).setIfInBounds (cvC (2 * j + 1)) v7) (2 * (j + 1)) := fun i hi => by
  rw [Array.getElem?_setIfInBounds_ne (Ne.symm (hi (2 * j + 1) (by omega))), Array.getElem?_setIfInBounds_ne (Ne.symm (hi (2 * j) (by omega)))]
  exact h i fun q hq => hi q (by omega)
theorem OwF.one {B : Nat} {w : World} {v : Value} {xs : List Nat} (h : OwF B w v xs) : v.oneCell' = true := by
  obtain ⟨a, n, c, rfl⟩ := h.form
  simp [Value.oneCell']
theorem all_set {C : Array Value} {p : Value → Bool} {i : Nat} {v : Value} (h : C.all p = true) (hv : p v = true) : (C.setIfInBounds i v).all p = true := by
  rw [all_of_get] at h ⊢
  intro j u hj
  by_cases hij : i = j
  · subst hij
    by_cases hl : i < C.size
    · rw [Array.getElem?_setIfInBounds_self_of_lt hl] at hj
      rw [← Option.some.inj hj]; exact hv
    · rw [Array.getElem?_eq_none (by simp; omega)] at hj; cases hj
  · rw [Array.getElem?_setIfInBounds_ne hij] at hj
    exact h j u hj
theorem cvV_x {g : Gd} {j : Nat} {c : Cv} (h : g.cvs[j]? = some c) : cvV g (2 * j) = c.xs ∧ cvV g (2 * j + 1) = c.ys := by
  have hd : g.cvs.getD j ⟨0, [], []⟩ = c := by rw [List.getD_eq_getElem?_getD, h]; rfl
  unfold cvV
  rw [show 2 * j % 2 = 0 by omega, show 2 * j / 2 = j by omega, show (2 * j + 1) % 2 = 1 by omega, show (2 * j + 1) / 2 = j by omega, hd]
  exact ⟨rfl, rfl⟩
theorem CS.gd {B : Nat} {g : Gd} {C Cj : Array Value} {w w' : World} (h : GdAt w C g) (hs : Cj.size = 49) (h1 : Cj.all (·.oneCell') = true) (u : Un C Cj 8) (c : CS B g 8 Cj w') : GdAt w' Cj g := by
  have k : ∀ i, (i < 20 ∨ 32 ≤ i ∨ i % 3 = 2) → Cj[i]? = C[i]? := fun i hi => u i fun q hq => by unfold cvC; omega
  refine ⟨hs, h1, by rw [k 0 (by omega)]; exact h.kind, ⟨h.whe.1, fun i hi => by rw [k _ (by omega)]; exact h.whe.2 i hi⟩, ⟨h.lst.1, fun i hi => by rw [k _ (by omega)]; exact h.lst.2 i hi⟩, ⟨h.cvs.1, fun i cc hc => ?_⟩, ⟨h.mix.1, fun i hi => by rw [k _ (by omega)]; exact h.mix.2 i hi⟩, by rw [k _ (by omega)]; exact h.piv, by rw [k _ (by omega)]; exact h.amt, ⟨h.pts.1, fun i hi => by rw [k _ (by omega)]; exact h.pts.2 i hi⟩⟩
  have hi : i < 4 := by have := (List.getElem?_eq_some_iff.1 hc).1; rw [h.cvs.1] at this; exact this
  obtain ⟨vx, a1, a2⟩ := c.row (2 * i) (by omega)
  obtain ⟨vy, b1, b2⟩ := c.row (2 * i + 1) (by omega)
  rw [(cvV_x hc).1] at a2
  rw [(cvV_x hc).2] at b2
  refine ⟨by rw [k _ (by omega)]; exact (h.cvs.2 i cc hc).1, ⟨vx, ?_, a2.sl⟩, vy, ?_, b2.sl⟩
  · rw [← a1]; congr 1; unfold cvC; omega
  · rw [← b1]; congr 1; unfold cvC; omega
theorem wpList_store_rowG {ops : Array Oper} {rest : List Oper} {o : Oper} {a : Act} {w : World} {Q : Exit → Act → World → Prop} (hgd : o.guard = none) (x y : Operand) (ho : o.op = .store 46 x y) (b : Nat) (D : Array Value) (hx : a.eval x = .pointer (some ⟨b, 0, none⟩)) (hy : a.eval y = .agg D) {Z : Array Value} (hZ : Bx w b 46 Z) (hZs : Z.size = 49) (hD : D.size = 49) (h1 : D.all (·.oneCell') = true)
    (h : wpList Tryz.prog ops Q rest (a.put o.dst undef) (w.setRow b D)) : wpList Tryz.prog ops Q (o :: rest) a w :=
  wpList_plain hgd fun _ hK => wp_store_row 46 x y ho b D hx hy 46 Z hZ (by rw [hD]; exact grade_size) (hZs.trans hD.symm) h1 (hK _ _ h)
set_option maxRecDepth 100000 in
set_option maxHeartbeats 32000000 in
theorem grade_cloned (C : Array Value) (g : Gd) (W : World) (hG : GdAt W C g) (hlen : ∀ c ∈ g.cvs, c.xs.length ≤ 1000000 ∧ c.ys.length ≤ 1000000) : Calls Tryz.prog 33 #[.agg C] W fun e w' => ∃ C', e = .returned (.agg C') ∧ GdAt w' C' g ∧ CS W.heap.size g 8 C' w' ∧ Below W.heap.size W w' := by
  have HG := Lib.hid (And.intro hG hlen)
  clear hG hlen
  go_enter Tryz.func33, Tryz.ntmps33
  go_upto_region 1 with fail
  refine name_world ?_
  intro W3 hW3
  obtain ⟨Z, hZ, hZs⟩ : ∃ Z : Array Value, Bx W3 (W.alloc (.cells C 46)).heap.size 46 Z ∧ Z.size = 49 := ⟨_, by rw [hW3]; exact Bx.new _ _ _, rfl⟩
  have hx1 : Bx W3 W.heap.size 46 C := by rw [hW3]; exact (Bx.new W 46 C).keep (bnew (Below.refl _ _))
  have HW3 : Hid (Below W.heap.size W W3) := Lib.hid (by rw [hW3]; exact bnew (bnew (ob := .cells C 46) (Below.refl _ _)))
  have hsz : (W.alloc (.cells C 46)).heap.size = W.heap.size + 1 := Array.size_push _
  rw [hsz] at hZ
  obtain ⟨p1, hp1⟩ : ∃ p, W.heap.size = p := ⟨_, rfl⟩
  obtain ⟨p2, hp2⟩ : ∃ p, p1 + 1 = p := ⟨_, rfl⟩
  rw [hp1] at hZ hx1
  rw [hp2] at hZ
  try rw [hp1]
  try rw [hp2]
  have HP := Lib.hid (And.intro hp1 hp2)
  have HZ := Lib.hid (And.intro hZ hZs)
  have X1 := Lib.hid hx1
  clear hW3 hp1 hp2 hZ hZs hx1 hsz
  obtain ⟨hD1, hD2⟩ := part_cells X1.out 20 12 (by rw [HG.out.1.size]; omega)
  have HD := Lib.hid (And.intro hD1 hD2)
  clear hD1 hD2
  go_wp2_with (refine wpList_load_cells rfl 40 (.tmp 5) rfl p1 20 rfl (C.extract 20 (20 + 12)) HD.out.2 _ Tryz.underlying40 rfl (by rw [HD.out.1]; exact size_c4) ?_)
  obtain ⟨D, hD⟩ : ∃ D, C.extract 20 (20 + 12) = D := ⟨_, rfl⟩
  rw [hD]
  have HDe := Lib.hid hD
  clear hD
  go_loopw [7] (fun i wr => ∃ (j : Nat) (Cj : Array Value), j ≤ 4 ∧ i = .int .i64 (j : Int) ∧ Hid (Bx wr p1 46 Cj ∧ CS W.heap.size g (2 * j) Cj wr ∧ Un C Cj (2 * j) ∧ Cj.all (·.oneCell') = true ∧ Kx p1 W3 wr ∧ Cj.size = 49)) (fun i _ => 4 - (RowKit.intOf i).toNat)
  case atStart => exact ⟨0, C, by omega, rfl, Lib.hid ⟨X1.out, ⟨fun q hq => (by omega), fun q q' v v' b hq => (by omega)⟩, fun _ _ => rfl, HG.out.1.one, Kx.refl _ _, HG.out.1.size⟩⟩
  case round =>
    obtain ⟨j, Cj, hj, rfl, HI⟩ := hrel
    by_cases hlj : j < 4
    · obtain ⟨c3, hc3⟩ : ∃ c3, g.cvs[j]? = some c3 := ⟨_, List.getElem?_eq_getElem (by have := HG.out.1.cvs.1; omega)⟩
      obtain ⟨vx, vy, e3, slx, sly⟩ := HG.out.1.cv hc3
      rw [HDe.out] at e3
      have HV := Lib.hid (cvV_x hc3)
      have HLN := Lib.hid (HG.out.2 c3 (List.mem_of_getElem? hc3))
      obtain ⟨D3, hD3⟩ : ∃ D3, (#[Value.int .i64 c3.kind, vx, vy] : Array Value) = D3 := ⟨_, rfl⟩
      have hone : D3.all (·.oneCell') = true := by
        rw [← hD3]
        obtain ⟨_, _, _, rfl⟩ := slx.form
        obtain ⟨_, _, _, rfl⟩ := sly.form
        simp [Value.oneCell']
      have hcs : D3.size = 3 := by rw [← hD3]; rfl
      have hst := fun w => curve_store w hcs hone
      rw [hD3] at e3
      have HE3 := Lib.hid e3
      have HD3 : Hid (D3[0]? = some (.int .i64 c3.kind) ∧ D3[1]? = some vx ∧ D3[2]? = some vy) := Lib.hid ⟨by rw [← hD3]; rfl, by rw [← hD3]; rfl, by rw [← hD3]; rfl⟩
      obtain ⟨xs, hxs⟩ : ∃ xs, c3.xs = xs := ⟨_, rfl⟩
      obtain ⟨ys, hys⟩ : ∃ ys, c3.ys = ys := ⟨_, rfl⟩
      rw [hxs] at slx
      rw [hys] at sly
      rw [hxs, hys] at HV HLN
      have hd2 : decide ((j : Int) < 4) = true := decide_eq_true (by omega)
      have HSJ : Hid (Cj.size = 49) := Lib.hid HI.out.2.2.2.2.2
      have SX := Lib.hid (And.intro slx sly)
      clear hc3 slx sly hone hD3 e3 hxs hys
      go_upto_region 3 with fail
      go_upto_region 4 with (refine wpList_index_cv rfl (.tmp 6) (.tmp 7) rfl rfl rfl hlj HE3.out ?_)
      clear hst hcs
      refine name_world ?_
      intro W2 hW2
      have X4 : Hid (Bx W2 wr.heap.size 39 D3) := Lib.hid (by rw [hW2]; exact Bx.new wr _ D3)
      have HB2 : Hid (Below wr.heap.size wr W2) := Lib.hid (by rw [hW2]; exact bnew (ob := .cells D3 39) (Below.refl _ _))
      have HNE : Hid (wr.heap.size ≠ p1) := Lib.hid (Nat.ne_of_gt HI.out.1.lt)
      obtain ⟨p4, hp4⟩ : ∃ p, wr.heap.size = p := ⟨_, rfl⟩
      rw [hp4] at X4 HNE ⊢
      have HBW : Hid (Below W.heap.size W W2) := Lib.hid (bcall (below_kx HW3.out HI.out.2.2.2.2.1 (Nat.le_of_eq HP.out.1) HW3.out.size) HB2.out)
      have XJ : Hid (Bx W2 p1 46 Cj) := Lib.hid (HI.out.1.keep HB2.out)
      have HSX : Hid (∀ w, Kx p1 W2 w → Sl w vx xs) := Lib.hid (fun w k => SX.out.1.keep (below_kx HBW.out k (Nat.le_of_eq HP.out.1) HBW.out.size))
      have HSY : Hid (∀ w, Kx p1 W2 w → Sl w vy ys) := Lib.hid (fun w k => SX.out.2.keep (below_kx HBW.out k (Nat.le_of_eq HP.out.1) HBW.out.size))
      clear hW2 hp4
      obtain ⟨xa, xn, xc, hvx⟩ := SX.out.1.form
      obtain ⟨ya, yn, yc, hvy⟩ := SX.out.2.form
      subst hvx hvy
      refine wp_region_inv 16 (fun qz u' => if qz = 4 then True else if qz = 7 then True else u' = [(.int .i64 (j : Int)), (.int .i64 (j : Int)), (.pointer (some ⟨p4, 1, none⟩)), (.slice xa xn xc), undef, (.pointer (some ⟨p4, 2, none⟩)), (.slice ya yn yc), undef, (.pointer (some ⟨p1, 20, none⟩)), (.pointer (some ⟨p1, 20 + j * 3, none⟩)), (.pointer (some ⟨p1, 20 + j * 3 + 1, none⟩)), undef, (.pointer (some ⟨p1, 20, none⟩)), (.pointer (some ⟨p1, 20 + j * 3, none⟩)), (.pointer (some ⟨p1, 20 + j * 3 + 2, none⟩)), undef].getD qz undef) (fun d vs w' => CE p1 W2 Cj (20 + j * 3 + 1) (20 + j * 3 + 2) xs ys (d 4) (d 7) (d 11) (d 15) (vs 4) (vs 7) w') (by kernel_rfl) (by kernel_rfl) ?_ ?_ ?_
      · intro vs
        exact CE.keep (w := W2) ⟨Kx.refl _ _, XJ.out, fun e => (by cases e), fun e => (by cases e), fun e => (by cases e), fun e => (by cases e), fun e => (by cases e)⟩ ((Below.refl _ _).drew)
      · intro iq oq hi ho
        rcases (by omega : iq = 0 ∨ iq = 1 ∨ iq = 2 ∨ iq = 3 ∨ iq = 4 ∨ iq = 5 ∨ iq = 6 ∨ iq = 7 ∨ iq = 8 ∨ iq = 9 ∨ iq = 10 ∨ iq = 11 ∨ iq = 12 ∨ iq = 13 ∨ iq = 14 ∨ iq = 15) with rfl | rfl | rfl | rfl | rfl | rfl | rfl | rfl | rfl | rfl | rfl | rfl | rfl | rfl | rfl | rfl
        all_goals simp only [List.getElem?_cons_zero, List.getElem?_cons_succ, Option.some.injEq] at ho
        all_goals subst ho
        all_goals intro d a0 wx hI hag hdep hun
        · have e0 := slot_eq (hag 3 rfl)
          exact inv_val (v := (.int .i64 (j : Int))) (by simp [go_sem, e0]) (fun h => (by cases h)) rfl hI
        · have e0 := slot_eq (hag 3 rfl)
          exact inv_val (v := (.int .i64 (j : Int))) (by simp [go_sem, e0]) (fun h => (by cases h)) rfl hI
        · have e0 := slot_eq (hag 4 rfl)
          exact inv_val (v := (.pointer (some ⟨p4, 1, none⟩))) (by simp [go_sem, e0]) (fun h => (by cases h)) rfl hI
        · have hq := (hI.kx.bx X4.out HNE.out).all.1 1
          rw [HD3.out.2.1] at hq
          have e0 := slot_eq (hdep ⟨2, .data⟩ (by simp) rfl).1
          exact inv_val (v := (.slice xa xn xc)) (by simp [go_sem, e0, hq]) (fun h => (by cases h)) rfl hI
        · have e0 := slot_eq (hdep ⟨3, .data⟩ (by simp) rfl).1
          refine inv_call (f := 68) (args := #[(.slice xa xn xc)]) (run_go_call Tryz.func68 (by kernel_rfl) (by kernel_rfl) _ _ _ _ _ _ _ _ _ _ (by simp [Act.eval, e0])) (fun h => (by cases h)) ?_
          refine (sl_CloneF (.slice xa xn xc) _ wx (HSX.out wx hI.kx) (by have := HLN.out; omega)).mono ?_
          rintro e w' ⟨u', rfl, ho, hb⟩
          exact ⟨u', rfl, trivial, CE.set4 hI hun ho hb⟩
        · have e0 := slot_eq (hag 4 rfl)
          exact inv_val (v := (.pointer (some ⟨p4, 2, none⟩))) (by simp [go_sem, e0]) (fun h => (by cases h)) rfl hI
        · have hq := (hI.kx.bx X4.out HNE.out).all.1 2
          rw [HD3.out.2.2] at hq
          have e0 := slot_eq (hdep ⟨5, .data⟩ (by simp) rfl).1
          exact inv_val (v := (.slice ya yn yc)) (by simp [go_sem, e0, hq]) (fun h => (by cases h)) rfl hI
        · have e0 := slot_eq (hdep ⟨6, .data⟩ (by simp) rfl).1
          refine inv_call (f := 68) (args := #[(.slice ya yn yc)]) (run_go_call Tryz.func68 (by kernel_rfl) (by kernel_rfl) _ _ _ _ _ _ _ _ _ _ (by simp [Act.eval, e0])) (fun h => (by cases h)) ?_
          refine (sl_CloneF (.slice ya yn yc) _ wx (HSY.out wx hI.kx) (by have := HLN.out; omega)).mono ?_
          rintro e w' ⟨u', rfl, ho, hb⟩
          exact ⟨u', rfl, trivial, CE.set7 hI hun ho hb⟩
        · have e0 := slot_eq (hag 1 rfl)
          exact inv_val (v := (.pointer (some ⟨p1, 20, none⟩))) (by simp [go_sem, e0]) (fun h => (by cases h)) rfl hI
        · have z1 : (j : Int) < 4 := by omega
          have e0 := slot_eq (hdep ⟨8, .data⟩ (by simp) rfl).1
          have e1 := slot_eq (hdep ⟨0, .data⟩ (by simp) rfl).1
          exact inv_val (v := (.pointer (some ⟨p1, 20 + j * 3, none⟩))) (by simp [go_sem, e0, e1, z1, hlj]) (fun h => (by cases h)) rfl hI
        · have e0 := slot_eq (hdep ⟨9, .data⟩ (by simp) rfl).1
          exact inv_val (v := (.pointer (some ⟨p1, 20 + j * 3 + 1, none⟩))) (by simp [go_sem, e0]) (fun h => (by cases h)) rfl hI
        · have e0 := slot_eq (hdep ⟨10, .data⟩ (by simp) rfl).1
          have h4 := (hdep ⟨4, .data⟩ (by simp) rfl).2
          obtain ⟨pa, na, ca, hv4⟩ := (hI.a4 h4).form
          have e1 := slot_eq hv4
          obtain ⟨qx, fx, _⟩ := hI.bx.all
          have hf := fx (20 + j * 3 + 1)
          obtain ⟨uu, hq⟩ : ∃ uu, wx.cell? ⟨p1, 20 + j * 3 + 1, none⟩ = some uu := by
            refine ⟨_, (qx _).trans (Array.getElem?_eq_getElem ?_)⟩
            have := HSJ.out
            split <;> split <;> simp [HSJ.out] <;> omega
          have hS := hI.set11 h4 hun (by omega)
          refine inv_skip (w' := wx.setCell ⟨p1, 20 + j * 3 + 1, none⟩ (slotOf _ a0 4)) ?_ rfl hS
          rw [hv4]
          clear hS hI hag hdep hv4 qx fx
          simp [go_sem, e0, e1, hq, hf]
        · have e0 := slot_eq (hag 1 rfl)
          exact inv_val (v := (.pointer (some ⟨p1, 20, none⟩))) (by simp [go_sem, e0]) (fun h => (by cases h)) rfl hI
        · have z1 : (j : Int) < 4 := by omega
          have e0 := slot_eq (hdep ⟨12, .data⟩ (by simp) rfl).1
          have e1 := slot_eq (hdep ⟨1, .data⟩ (by simp) rfl).1
          exact inv_val (v := (.pointer (some ⟨p1, 20 + j * 3, none⟩))) (by simp [go_sem, e0, e1, z1, hlj]) (fun h => (by cases h)) rfl hI
        · have e0 := slot_eq (hdep ⟨13, .data⟩ (by simp) rfl).1
          exact inv_val (v := (.pointer (some ⟨p1, 20 + j * 3 + 2, none⟩))) (by simp [go_sem, e0]) (fun h => (by cases h)) rfl hI
        · have e0 := slot_eq (hdep ⟨14, .data⟩ (by simp) rfl).1
          have h4 := (hdep ⟨7, .data⟩ (by simp) rfl).2
          obtain ⟨pa, na, ca, hv4⟩ := (hI.a7 h4).form
          have e1 := slot_eq hv4
          obtain ⟨qx, fx, _⟩ := hI.bx.all
          have hf := fx (20 + j * 3 + 2)
          obtain ⟨uu, hq⟩ : ∃ uu, wx.cell? ⟨p1, 20 + j * 3 + 2, none⟩ = some uu := by
            refine ⟨_, (qx _).trans (Array.getElem?_eq_getElem ?_)⟩
            have := HSJ.out
            split <;> split <;> simp [HSJ.out] <;> omega
          have hS := hI.set15 h4 hun
          refine inv_skip (w' := wx.setCell ⟨p1, 20 + j * 3 + 2, none⟩ (slotOf _ a0 7)) ?_ rfl hS
          rw [hv4]
          clear hS hI hag hdep hv4 qx fx
          simp [go_sem, e0, e1, hq, hf]
      · intro d vs w6 hd hI hA
        have k0 : vs 0 = (.int .i64 (j : Int)) := hA 0 (by omega)
        have k1 : vs 1 = (.int .i64 (j : Int)) := hA 1 (by omega)
        have k2 : vs 2 = (.pointer (some ⟨p4, 1, none⟩)) := hA 2 (by omega)
        have k3 : vs 3 = (.slice xa xn xc) := hA 3 (by omega)
        have k5 : vs 5 = (.pointer (some ⟨p4, 2, none⟩)) := hA 5 (by omega)
        have k6 : vs 6 = (.slice ya yn yc) := hA 6 (by omega)
        have k8 : vs 8 = (.pointer (some ⟨p1, 20, none⟩)) := hA 8 (by omega)
        have k9 : vs 9 = (.pointer (some ⟨p1, 20 + j * 3, none⟩)) := hA 9 (by omega)
        have k10 : vs 10 = (.pointer (some ⟨p1, 20 + j * 3 + 1, none⟩)) := hA 10 (by omega)
        have k12 : vs 12 = (.pointer (some ⟨p1, 20, none⟩)) := hA 12 (by omega)
        have k13 : vs 13 = (.pointer (some ⟨p1, 20 + j * 3, none⟩)) := hA 13 (by omega)
        have k14 : vs 14 = (.pointer (some ⟨p1, 20 + j * 3 + 2, none⟩)) := hA 14 (by omega)
        simp only [putAll, dstAt, List.getElem?_toArray, List.getElem?_cons_zero, List.getElem?_cons_succ, Option.bind_some, Option.bind_none, Act.put, List.setIfInBounds_toArray, List.set_cons_zero, List.set_cons_succ, k0, k1, k2, k3, k5, k6, k8, k9, k10, k12, k13, k14]
        have hI6 : CE p1 W2 Cj (20 + j * 3 + 1) (20 + j * 3 + 2) xs ys true true true true (vs 4) (vs 7) w6 := by
          have h := hI
          simp only [hd 4 (by omega), hd 7 (by omega), hd 11 (by omega), hd 15 (by omega)] at h
          exact h
        generalize vs 4 = v4 at *
        generalize vs 7 = v7 at *
        have HN := Lib.hid hI6
        have HK := Lib.hid hlj
        clear hI hA hd k0 k1 k2 k3 k5 k6 k8 k9 k10 k12 k13 k14 hI6 hd2 hlj
        go_wp2_with fail
        go_roundw
        case rel =>
          have hN := HN.out
          rw [show 20 + j * 3 + 1 = cvC (2 * j) by unfold cvC; omega, show 20 + j * 3 + 2 = cvC (2 * j + 1) by unfold cvC; omega, ← HV.out.1, ← HV.out.2] at hN
          have hx := hN.bx
          rw [if_pos rfl, if_pos rfl] at hx
          refine ⟨j + 1, _, by have := HK.out; omega, by go_num, Lib.hid ⟨hx, CS.step HI.out.2.1 HI.out.1 HSJ.out HK.out HB2.out (Nat.le_trans HW3.out.size (Nat.le_trans HI.out.2.2.2.2.1.size HB2.out.size)) hN, Un.step HI.out.2.2.1 _ _, ?_, (HI.out.2.2.2.2.1.call HB2.out).trans hN.kx, by simp [HSJ.out]⟩⟩
          exact all_set (all_set HI.out.2.2.2.1 (hN.a4 rfl).one) (hN.a7 rfl).one
        case measure => have := HK.out; simp [RowKit.intOf]; omega
    · obtain rfl : j = 4 := by omega
      have HZ2 := Lib.hid (HI.out.2.2.2.2.1.bx HZ.out.1 (by have := HP.out; omega))
      have HGC := Lib.hid (CS.gd HG.out.1 HI.out.2.2.2.2.2 HI.out.2.2.2.1 HI.out.2.2.1 HI.out.2.1)
      have HLD : Hid (∀ (q : Nat) (v : Value), Cj[q]? = some v → wr.cell? ⟨p1, 0 + q, none⟩ = some v) := Lib.hid (fun q v hq => by rw [HI.out.1.all.1, Nat.zero_add]; exact hq)
      go_wp2_with (first | refine wpList_load_cells rfl 46 (.tmp 1) rfl p1 0 rfl Cj HLD.out _ Tryz.underlying46 rfl (by rw [HGC.out.size]; exact grade_size) ?_ | refine wpList_store_rowG rfl (.tmp 2) (.tmp 26) rfl p2 Cj rfl rfl HZ2.out HZ.out.2 HGC.out.size HGC.out.one ?_)
      have hb8 := HI.out.1
      have X8 : Bx (wr.setRow p2 Cj) p2 46 Cj := setRow_heap wr p2 Z Cj 46 (0, 0) HZ2.out
      have HC8 : Hid (CS W.heap.size g 8 Cj (wr.setRow p2 Cj)) := Lib.hid ⟨fun q hq => (by
        obtain ⟨v, e1, e2⟩ := HI.out.2.1.row q hq
        exact ⟨v, e1, e2.at fun b cur _ hb => setRow_other wr p2 b Cj (hb.ne HZ2.out (by decide))⟩), HI.out.2.1.apart⟩
      have HBF : Hid (Below W.heap.size W (wr.setRow p2 Cj)) := Lib.hid (below_setRow (below_kx HW3.out HI.out.2.2.2.2.1 (Nat.le_of_eq HP.out.1) HW3.out.size) (by have := HP.out; omega) Cj)
      refine bodyPost_ret (v := .agg Cj) (results_cell_row (p := 2) (ty := 46) (by kernel_rfl) _ _ p2 46 Cj (0, 0) _ rfl X8 Tryz.underlying46 rfl (by rw [HGC.out.size]; exact grade_size)) rfl ⟨Cj, rfl, CS.gd HG.out.1 HI.out.2.2.2.2.2 HI.out.2.2.2.1 HI.out.2.2.1 HC8.out, HC8.out, HBF.out⟩
end
end Go.Proofs.YticekgnmiaidjaaGreatDoor
