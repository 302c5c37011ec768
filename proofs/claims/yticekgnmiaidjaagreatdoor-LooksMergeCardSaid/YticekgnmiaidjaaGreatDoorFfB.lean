/- internal/strconv: prescale and shortFloat of a single. -/
import Derived.Test.YticekgnmiaidjaaGreatDoorShelf
import Derived.Test.YticekgnmiaidjaaGreatDoorMem
import GoSem.PinnedTables
namespace Go.Proofs.YticekgnmiaidjaaGreatDoor

section
open Go.RowKit

def b2 (b : Bool) : Int := if b then 1 else 0
set_option maxRecDepth 100000 in
theorem bool2_u64 (b : Bool) (w : World) : Calls Tryz.prog 259 #[.bool b] w fun e w' => e = .returned (.int .u64 (b2 b)) ∧ w' = w := by
  cases b
  all_goals
    go_enter Tryz.func259, Tryz.ntmps259
    go_wp2_with fail
    go_ret
    exact ⟨rfl, rfl⟩
set_option maxRecDepth 100000 in
theorem sc_log2Pow10 (x : Int) (w : World) (h : -1000 ≤ x ∧ x ≤ 1000) : Calls Tryz.prog 235 #[.int .i64 x] w fun e w' => e = .returned (.int .i64 (x * 108853 / 32768)) ∧ w' = w := by
  have hw : wrap64 (x * 108853) = x * 108853 := by unfold wrap64; omega
  have hw2 : IntKind.i64.wrap (x * 108853) = x * 108853 := by rw [IntKind.wrap_i64]; omega
  go_enter Tryz.func235, Tryz.ntmps235
  go_wp2_with fail
  go_ret
  exact ⟨rfl, rfl⟩
set_option maxRecDepth 100000 in
theorem sc_log10Pow2 (x : Int) (w : World) (h : -1000 ≤ x ∧ x ≤ 1000) : Calls Tryz.prog 209 #[.int .i64 x] w fun e w' => e = .returned (.int .i64 (x * 78913 / 262144)) ∧ w' = w := by
  have hw : wrap64 (x * 78913) = x * 78913 := by unfold wrap64; omega
  have hw2 : IntKind.i64.wrap (x * 78913) = x * 78913 := by rw [IntKind.wrap_i64]; omega
  go_enter Tryz.func209, Tryz.ntmps209
  go_wp2_with fail
  go_ret
  exact ⟨rfl, rfl⟩
set_option maxRecDepth 100000 in
theorem sc_skewed (x : Int) (w : World) (h : -1000 ≤ x ∧ x ≤ 1000) : Calls Tryz.prog 233 #[.int .i64 x] w fun e w' => e = .returned (.int .i64 ((x * 631305 - 261663) / 2097152)) ∧ w' = w := by
  have hw : wrap64 (x * 631305) = x * 631305 := by unfold wrap64; omega
  have hw2 : IntKind.i64.wrap (x * 631305) = x * 631305 := by rw [IntKind.wrap_i64]; omega
  have hw3 : IntKind.i64.wrap (x * 631305 - 261663) = x * 631305 - 261663 := by rw [IntKind.wrap_i64]; omega
  go_enter Tryz.func233, Tryz.ntmps233
  go_wp2_with fail
  go_ret
  exact ⟨rfl, rfl⟩
set_option maxRecDepth 100000 in
theorem un_nudge (u d : Int) (w : World) : Calls Tryz.prog 237 #[.int .u64 u, .int .i64 d] w fun e w' => e = .returned (.int .u64 (IntKind.u64.wrap (u + IntKind.u64.wrap d))) ∧ w' = w := by
  go_enter Tryz.func237, Tryz.ntmps237
  go_wp2_with fail
  go_ret
  exact ⟨rfl, rfl⟩
set_option maxRecDepth 100000 in
theorem un_ceil (u : Int) (w : World) : Calls Tryz.prog 238 #[.int .u64 u] w fun e w' => e = .returned (.int .u64 (IntKind.u64.wrap (u + 3) / 4)) ∧ w' = w := by
  go_enter Tryz.func238, Tryz.ntmps238
  go_wp2_with fail
  go_ret
  exact ⟨rfl, rfl⟩
set_option maxRecDepth 100000 in
theorem un_floor (u : Int) (w : World) (h0 : 0 ≤ u) (h1 : u < 18446744073709551616) : Calls Tryz.prog 239 #[.int .u64 u] w fun e w' => e = .returned (.int .u64 (u / 4)) ∧ w' = w := by
  have hw : IntKind.u64.wrap u = u := by rw [IntKind.wrap_u64]; omega
  go_enter Tryz.func239, Tryz.ntmps239
  go_wp2_with fail
  go_ret
  exact ⟨rfl, rfl⟩
def roundU (u : Int) : Int := IntKind.u64.wrap (IntKind.u64.wrap (u + 1) + bits .and .u64 (u / 4) 1) / 4
set_option maxRecDepth 100000 in
theorem un_round (u : Int) (w : World) : Calls Tryz.prog 240 #[.int .u64 u] w fun e w' => e = .returned (.int .u64 (roundU u)) ∧ w' = w := by
  obtain ⟨R, hR⟩ : ∃ R, roundU u = R := ⟨_, rfl⟩
  rw [hR]
  unfold roundU at hR
  obtain ⟨B, hB⟩ : ∃ B, bits .and .u64 (u / 4) 1 = B := ⟨_, rfl⟩
  rw [hB] at hR
  have HR := Lib.hid hR
  clear hR
  go_enter Tryz.func240, Tryz.ntmps240
  go_wp2_with fail
  go_ret
  refine ⟨?_, rfl⟩
  rw [← HR.out]
  rfl
/-- unround(x * (hi<<64 - lo) >> (128 + s)), as uscale reckons it. -/
def uscF (x hi lo s : Nat) : Int :=
  if IntKind.u64.wrap (((x * hi / 18446744073709551616 : Nat) : Int) / 2 ^ s * 2 ^ s) = ((x * hi / 18446744073709551616 : Nat) : Int) then
    bits .or .u64 (IntKind.u64.wrap (((x * hi / 18446744073709551616 : Nat) : Int) - b2 (decide (x * hi % 18446744073709551616 < x * lo / 18446744073709551616))) / 2 ^ s)
      (b2 (decide (1 < IntKind.u64.wrap (((x * hi % 18446744073709551616 : Nat) : Int) - ((x * lo / 18446744073709551616 : Nat) : Int)))))
  else bits .or .u64 (((x * hi / 18446744073709551616 : Nat) : Int) / 2 ^ s) 1
theorem and63 {s : Nat} (h : s < 64) : bits .and .i64 (s : Int) 63 = (s : Int) := by
  have key : ∀ n : Fin 64, bits .and .i64 ((n.val : Nat) : Int) 63 = ((n.val : Nat) : Int) := by decide +kernel
  exact key ⟨s, h⟩
set_option maxRecDepth 100000 in
set_option maxHeartbeats 2000000 in
theorem sc_uscale (g x hi lo s : Nat) (w : World) (b : Bx w g 261 #[.int .u64 (hi : Int), .int .u64 (lo : Int), .int .i64 (s : Int)]) (hx : x < 18446744073709551616) (hh : hi < 18446744073709551616) (hl : lo < 18446744073709551616) (hs : s < 64) :
    Calls Tryz.prog 236 #[.int .u64 (x : Int), .pointer (some ⟨g, 0, none⟩)] w fun e w' => e = .returned (.int .u64 (uscF x hi lo s)) ∧ Below w.heap.size w w' := by
  obtain ⟨q, f, l⟩ := b.all
  obtain ⟨R, hR⟩ : ∃ R, uscF x hi lo s = R := ⟨_, rfl⟩
  rw [hR]
  unfold uscF at hR
  have K1 := Lib.hid (fun w => Tryz.bits_Mul64 x hi hx hh w)
  have K2 := Lib.hid (fun w => Tryz.bits_Mul64 x lo hx hl w)
  have hM0 : x * hi % 18446744073709551616 < 18446744073709551616 := Nat.mod_lt _ (by decide)
  generalize x * hi / 18446744073709551616 = H at *
  generalize x * hi % 18446744073709551616 = M at *
  generalize x * lo / 18446744073709551616 = M2 at *
  have HR := Lib.hid hR
  have hand := and63 hs
  clear hR
  go_enter Tryz.func236, Tryz.ntmps236
  go_wp2_with fail
  refine (K1.out _).mono ?_
  rintro e w1 ⟨rfl, rfl⟩
  by_cases hc : IntKind.u64.wrap ((H : Int) / 2 ^ s * 2 ^ s) = (H : Int)
  · have HRR : Hid (bits .or .u64 (IntKind.u64.wrap ((H : Int) - b2 (decide (M < M2))) / 2 ^ s) (b2 (decide (1 < IntKind.u64.wrap ((M : Int) - (M2 : Int))))) = R) := Lib.hid (by
      have := HR.out
      rwa [if_pos hc] at this)
    obtain ⟨B1, hB1⟩ : ∃ B, decide (M < M2) = B := ⟨_, rfl⟩
    have hB1i : decide ((M : Int) < (M2 : Int)) = B1 := by rw [← hB1]; congr 1; simp
    rw [hB1] at HRR
    have hne : (IntKind.u64.wrap ((H : Int) / 2 ^ s * 2 ^ s) != (H : Int)) = false := by rw [hc]; simp
    clear hc HR K1
    go_wp2_with fail
    refine (K2.out _).mono ?_
    rintro e w2 ⟨rfl, rfl⟩
    go_wp2_with fail
    refine (bool2_u64 B1 _).mono ?_
    rintro e w3 ⟨rfl, rfl⟩
    obtain ⟨B2, hB2⟩ : ∃ B, decide (1 < IntKind.u64.wrap ((M : Int) - (M2 : Int))) = B := ⟨_, rfl⟩
    rw [hB2] at HRR
    generalize b2 B1 = n1 at *
    have KB := Lib.hid (fun w => (bool2_u64 B2 w).mono fun _ _ h => (⟨h.1, h.2.symm⟩ : _ ∧ w = _))
    generalize b2 B2 = n2 at *
    clear K2 hB1 hB1i hne
    go_upto_region 7 with fail
    go_quiet ((go_at_call 259; exact quiet_same (KB.out _)))
    go_wp2_with fail
    go_ret
    refine ⟨?_, below_drewN (Below.refl _ _) _⟩
    rw [← HRR.out]
    rfl
  · have HRR : Hid (bits .or .u64 ((H : Int) / 2 ^ s) 1 = R) := Lib.hid (by
      have := HR.out
      rwa [if_neg hc] at this)
    have hne : (IntKind.u64.wrap ((H : Int) / 2 ^ s * 2 ^ s) != (H : Int)) = true := by rw [bne_iff_ne]; exact hc
    clear hc HR K1 K2
    go_wp2_with fail
    go_ret
    refine ⟨?_, Below.refl _ _⟩
    rw [← HRR.out]
    rfl
end

section
open Go.RowKit

def tabHi (i : Nat) : Nat := (Pinned.pow10Rows.getD i (0, 0)).1
def tabLo (i : Nat) : Nat := (Pinned.pow10Rows.getD i (0, 0)).2
theorem tab_lt : (Pinned.pow10Rows.all fun x => decide (x.1 < 18446744073709551616) && decide (x.2 < 18446744073709551616)) = true := by decide +kernel
theorem tabHi_lt (i : Nat) : tabHi i < 18446744073709551616 := by
  unfold tabHi
  rw [List.getD_eq_getElem?_getD]
  cases h : Pinned.pow10Rows[i]? with
  | none => decide
  | some x =>
    have := List.all_eq_true.1 tab_lt x (List.mem_of_getElem? h)
    simp only [Bool.and_eq_true, decide_eq_true_eq] at this
    exact this.1
theorem tabLo_lt (i : Nat) : tabLo i < 18446744073709551616 := by
  unfold tabLo
  rw [List.getD_eq_getElem?_getD]
  cases h : Pinned.pow10Rows[i]? with
  | none => decide
  | some x =>
    have := List.all_eq_true.1 tab_lt x (List.mem_of_getElem? h)
    simp only [Bool.and_eq_true, decide_eq_true_eq] at this
    exact this.2
/-- What the printing of a single reads of library variables. -/
structure EnvF (w : World) : Prop where
  tab : ∀ i, i < 696 → w.cell? ⟨6, i * 2, none⟩ = some (.int .u64 (tabHi i : Int)) ∧ w.cell? ⟨6, i * 2 + 1, none⟩ = some (.int .u64 (tabLo i : Int))
  p10 : Lib.TabIs Tryz.prog w "internal/strconv.uint64pow10" .u64 Lib.pow10Tab
theorem cell_belowF {W w : World} {a : Addr} {v : Value} (hb : Below W.heap.size W w) (h : W.cell? a = some v) : w.cell? a = some v :=
  (hb.cell (World.block_lt_of_cell? W a h)).trans h
theorem var_belowF {W w : World} {P : Program} {n : String} {cs : Array Value} (hb : Below W.heap.size W w) (h : W.var? P n = some cs) : w.var? P n = some cs := by
  unfold World.var? at *
  rw [Option.bind_eq_some_iff] at *
  obtain ⟨g, hg, h⟩ := h
  refine ⟨g, hg, ?_⟩
  cases ho : W.heap[g]? with
  | none => rw [ho] at h; cases h
  | some o =>
    rw [ho] at h
    rw [hb.block g (Array.getElem?_eq_some_iff.1 ho).1, ho]
    exact h
theorem EnvF.below {W w : World} (E : EnvF W) (hb : Below W.heap.size W w) : EnvF w :=
  ⟨fun i hi => ⟨cell_belowF hb (E.tab i hi).1, cell_belowF hb (E.tab i hi).2⟩, var_belowF hb E.p10⟩

set_option maxRecDepth 100000 in
set_option maxHeartbeats 2000000 in
theorem sc_prescale (g : Nat) (e p lp : Int) (i : Nat) (c0 c1 c2 : Value) (w : World) (E : EnvF w) (b : Bx w g 261 #[c0, c1, c2]) (hi : p + 348 = (i : Int)) (hi2 : i < 696) (hgG : 6 < g) (he : -1000 ≤ e ∧ e ≤ 1000) (hl : -2000 ≤ lp ∧ lp ≤ 2000) :
    Calls Tryz.prog 234 #[.pointer (some ⟨g, 0, none⟩), .int .i64 e, .int .i64 p, .int .i64 lp] w fun e' w' => e' = .returned (.tuple #[]) ∧ Bx w' g 261 #[.int .u64 (tabHi i : Int), .int .u64 (tabLo i : Int), .int .i64 (-(e + lp + 3))] ∧ Below g w w' := by
  have ht := E.tab i hi2
  obtain ⟨t0, t1⟩ := ht
  obtain ⟨q, f, l⟩ := b.all
  have hip : IntKind.i64.wrap (p - -348) = (i : Int) := by rw [IntKind.wrap_i64]; omega
  have hip2 : p - -348 = (i : Int) := by omega
  have hii : (i : Int) < 696 := by omega
  have w1 : IntKind.i64.wrap (e + lp) = e + lp := by rw [IntKind.wrap_i64]; omega
  have w2 : IntKind.i64.wrap (e + lp + 3) = e + lp + 3 := by rw [IntKind.wrap_i64]; omega
  have w3 : IntKind.i64.wrap (-(e + lp + 3)) = -(e + lp + 3) := by rw [IntKind.wrap_i64]; omega
  have HB := Lib.hid b
  generalize (tabHi i : Int) = th at *
  generalize (tabLo i : Int) = tl at *
  clear hi E b
  go_enter Tryz.func234, Tryz.ntmps234
  go_upto_region 1 with fail
  refine name_world ?_
  intro v1 hv1
  have x1 : Bx v1 g 261 #[.int .u64 th, c1, c2] := by rw [hv1]; exact HB.out.set 0 _
  have B1 : Below g w v1 := by rw [hv1]; exact (Below.refl g w).setCell (p := ⟨g, 0, none⟩) (Nat.le_refl _) _
  clear hv1 q f l
  replace t1 := (B1.cell (p := ⟨6, i * 2 + 1, none⟩) hgG).trans t1
  obtain ⟨q, f, l⟩ := x1.all
  go_upto_region 2 with fail
  refine name_world ?_
  intro v2 hv2
  have x2 : Bx v2 g 261 #[.int .u64 th, .int .u64 tl, c2] := by rw [hv2]; exact x1.set 1 _
  have B2 : Below g w v2 := by rw [hv2]; exact B1.setCell (p := ⟨g, 1, none⟩) (Nat.le_refl _) _
  clear hv2 q f l t1 t0
  obtain ⟨q, f, l⟩ := x2.all
  go_wp2_with fail
  go_end0
  exact ⟨rfl, x2.set 2 _, B2.setCell (p := ⟨g, 2, none⟩) (Nat.le_refl _) _⟩

/-! ### shortFloat, as it reckons -/
def sfSk (m : Nat) (e : Int) : Bool := decide (m = 9223372036854775808) && decide (-189 < e)
def sfZ (e : Int) : Nat := if -189 ≤ e then 40 else (-149 - e).toNat
def sfP (m : Nat) (e : Int) : Int := if sfSk m e = true then -(((e + 40) * 631305 - 261663) / 2097152) else -((e + (sfZ e : Int)) * 78913 / 262144)
def sfMin (m : Nat) (e : Int) : Nat := if sfSk m e = true then m - 274877906944 else m - 2 ^ (sfZ e - 1)
def sfMax (m : Nat) (e : Int) : Nat := m + 2 ^ (sfZ e - 1)
def sfOdd (m : Nat) (e : Int) : Int := bits .and .i64 (wrap64 ((m : Int) / 2 ^ (sfZ e))) 1
def sfI (m : Nat) (e : Int) : Nat := (sfP m e + 348).toNat
def sfS (m : Nat) (e : Int) : Nat := (-(e + sfP m e * 108853 / 32768 + 3)).toNat
def sfU (m : Nat) (e : Int) (x : Nat) : Int := uscF x (tabHi (sfI m e)) (tabLo (sfI m e)) (sfS m e)
def sfDmin (m : Nat) (e : Int) : Int := IntKind.u64.wrap (IntKind.u64.wrap (sfU m e (sfMin m e) + IntKind.u64.wrap (sfOdd m e)) + 3) / 4
def sfDmax (m : Nat) (e : Int) : Int := IntKind.u64.wrap (sfU m e (sfMax m e) + IntKind.u64.wrap (-(sfOdd m e))) / 4
def shortF (m : Nat) (e : Int) : Int × Int :=
  if sfDmin m e ≤ IntKind.u64.wrap (sfDmax m e / 10 * 10) then (sfDmax m e / 10, -(sfP m e - 1))
  else if sfDmin m e < sfDmax m e then (roundU (sfU m e m), -(sfP m e))
  else (sfDmin m e, -(sfP m e))
/-- What the arguments of shortFloat are, of a single. -/
structure SfOk (m : Nat) (e : Int) : Prop where
  m0 : 9223372036854775808 ≤ m
  e0 : -212 ≤ e
  e1 : e ≤ 64
  m1 : m + 2 ^ (sfZ e) ≤ 18446744073709551616
theorem sfZ_range {e : Int} (h0 : -212 ≤ e) : 40 ≤ sfZ e ∧ sfZ e ≤ 63 := by
  unfold sfZ
  split <;> omega
theorem sf_consts (k : Nat) (hk : k < 277) : ∀ b : Bool, (b = true → -189 < (k : Int) - 212) → let e : Int := (k : Int) - 212; let p : Int := if b = true then -(((e + 40) * 631305 - 261663) / 2097152) else -((e + (sfZ e : Int)) * 78913 / 262144); -40 ≤ p ∧ p ≤ 60 ∧ 0 ≤ -(e + p * 108853 / 32768 + 3) ∧ -(e + p * 108853 / 32768 + 3) < 64 := by
  have key : ∀ n : Fin 277, ∀ b : Bool, (b = true → -189 < ((n.val : Nat) : Int) - 212) → (let e : Int := ((n.val : Nat) : Int) - 212; let p : Int := if b = true then -(((e + 40) * 631305 - 261663) / 2097152) else -((e + (sfZ e : Int)) * 78913 / 262144); -40 ≤ p ∧ p ≤ 60 ∧ 0 ≤ -(e + p * 108853 / 32768 + 3) ∧ -(e + p * 108853 / 32768 + 3) < 64) := by decide +kernel
  exact key ⟨k, hk⟩
theorem SfOk.consts {m : Nat} {e : Int} (h : SfOk m e) : -40 ≤ sfP m e ∧ sfP m e ≤ 60 ∧ 0 ≤ -(e + sfP m e * 108853 / 32768 + 3) ∧ -(e + sfP m e * 108853 / 32768 + 3) < 64 := by
  have h0 := h.e0
  have h1 := h.e1
  obtain ⟨k, hk⟩ : ∃ k : Nat, (k : Int) - 212 = e := ⟨(e + 212).toNat, by omega⟩
  have := sf_consts k (by omega) (sfSk m e) (fun hb => by
    unfold sfSk at hb
    simp only [Bool.and_eq_true, decide_eq_true_eq] at hb
    omega)
  simp only [hk] at this
  exact this
theorem and1 (x : Int) : bits .and .i64 x 1 = x % 2 := by
  have h1 : (BitVec.ofInt 64 1).toNat = 2 ^ 1 - 1 := by decide
  have key : (BitVec.ofInt 64 x &&& BitVec.ofInt 64 1).toNat = (x % ((2 ^ 64 : Nat) : Int)).toNat % 2 ^ 1 := by
    rw [BitVec.toNat_and, BitVec.toNat_ofInt, h1, Nat.and_two_pow_sub_one_eq_mod]
  show IntKind.i64.wrap ((BitVec.ofInt 64 x &&& BitVec.ofInt 64 1).toNat : Nat) = x % 2
  rw [key, IntKind.wrap_i64]
  omega
theorem sfOdd_range (m : Nat) (e : Int) : 0 ≤ sfOdd m e ∧ sfOdd m e ≤ 1 := by
  unfold sfOdd; rw [and1]; omega
theorem shortF_range (m : Nat) (e : Int) : 0 ≤ (shortF m e).1 ∧ (shortF m e).1 < 18446744073709551616 := by
  have h : ∀ z : Int, 0 ≤ IntKind.u64.wrap z ∧ IntKind.u64.wrap z < 18446744073709551616 := fun z => by rw [IntKind.wrap_u64]; omega
  unfold shortF
  split
  · have := h (sfU m e (sfMax m e) + IntKind.u64.wrap (-(sfOdd m e)))
    unfold sfDmax
    dsimp only
    omega
  · split
    · have := h (IntKind.u64.wrap (sfU m e m + 1) + bits .and .u64 (sfU m e m / 4) 1)
      unfold roundU
      dsimp only
      omega
    · have := h (IntKind.u64.wrap (sfU m e (sfMin m e) + IntKind.u64.wrap (sfOdd m e)) + 3)
      unfold sfDmin
      dsimp only
      omega
end
end Go.Proofs.YticekgnmiaidjaaGreatDoor
