/- internal/strconv: ftoa32, walked. (printed by gen_ffj.py) -/
import Derived.Test.YticekgnmiaidjaaGreatDoorFfI
import Derived.Test.YticekgnmiaidjaaGreatDoorFfD
import Derived.Test.YticekgnmiaidjaaGreatDoorInv
namespace Go.Proofs.YticekgnmiaidjaaGreatDoor
open Go.RowKit Go.Lib

@[go_sem] theorem run_bits32i (b : Nat) (w : World) : (callFunc 202 #[.float .f32 b]).run Tryz.prog w = .ok (.value (.int .u32 b)) w := by
  rw [run_callFunc_extern Tryz.func202 (by kernel_rfl) (by kernel_rfl) (by kernel_rfl) (e := Extern.MathFloatBits.float32bits) (by kernel_rfl)]; rfl
theorem StB.rebase {B : Nat} {W0 w : World} {g : Nat} {T : TypeId} {cs : Array Value} {v : Value} {l : List Int} (h : StB B W0 g T cs w v l) : StB B w g T cs w v l := ⟨h.own, Below.refl _ _, h.buf, h.ty, h.base⟩
theorem inv_call {P : Program} {o : Oper} {a : Act} {w : World} {Q : Exit → Act → World → Prop} {A : Nat → Value → Prop} {E : (Nat → Bool) → (Nat → Value) → World → Prop} {d : Nat → Bool} {vs : Nat → Value} {i : Nat} {f : FuncId} {args : Array Value}
    (hr : (execOp a.eval o).run P w = .ok (.enter f args) w) (hn : o.dst ≠ none) (hc : Calls P f args w fun e w' => ∃ v, e = .returned v ∧ A i v ∧ E (upd d i true) (upd vs i v) w') : o.wp P a w (InvPost A E d vs i o a) Q := by
  unfold Oper.wp
  rw [hr]
  refine hc.mono ?_
  rintro e w' ⟨v, rfl, h1, h2⟩
  exact ⟨v, rfl, fun h => absurd h hn, h1, h2⟩
theorem parts (x : Nat) (hx : x < 4294967296) :
    IntKind.u64.wrap (x : Int) = x ∧ ((x : Int) / 2147483648 != 0) = sgB x ∧ IntKind.i64.wrap ((x : Int) / 8388608) = (x : Int) / 8388608 ∧ bits .and .i64 ((x : Int) / 8388608) 255 = (exN x : Int) ∧ bits .and .u64 (x : Int) 8388607 = ((x % 8388608 : Nat) : Int) ∧ bits .or .u64 ((x % 8388608 : Nat) : Int) 8388608 = ((x % 8388608 + 8388608 : Nat) : Int) := by
  refine ⟨by rw [IntKind.wrap_u64]; omega, ?_, by rw [IntKind.wrap_i64]; omega, ?_, ?_, ?_⟩
  · unfold sgB
    by_cases h : 2147483648 ≤ x
    · rw [decide_eq_true h, bne_iff_ne]; omega
    · rw [decide_eq_false h, bne_eq_false_iff_eq]; omega
  · unfold exN
    obtain ⟨y, hy⟩ : ∃ y : Nat, x / 8388608 = y := ⟨_, rfl⟩
    have hy2 : ((x : Int) / 8388608) = (y : Int) := by omega
    have hy3 : y < 512 := by omega
    rw [hy2, hy]
    have key : ∀ n : Fin 512, bits .and .i64 ((n.val : Nat) : Int) 255 = ((n.val % 256 : Nat) : Int) := by decide +kernel
    exact key ⟨y, hy3⟩
  · have h := bits_and_u64_nat x 8388607 (by omega) (by omega)
    rw [show ((8388607 : Nat) : Int) = 8388607 from rfl] at h
    rw [h, show (8388607 : Nat) = 2 ^ 23 - 1 from rfl, Nat.and_two_pow_sub_one_eq_mod]
  · have h := bits_or_u64_nat (x % 8388608) 8388608 (by omega) (by omega)
    rw [show ((8388608 : Nat) : Int) = 8388608 from rfl] at h
    rw [h]
    have h2 := Nat.two_pow_add_eq_or_of_lt (i := 23) (b := x % 8388608) (by omega) 1
    rw [show 2 ^ 23 * 1 = 8388608 from rfl] at h2
    rw [Nat.or_comm, ← h2, Nat.add_comm]

set_option maxRecDepth 100000 in
set_option maxHeartbeats 16000000 in
theorem ftoa_zero (x : Nat) (hx : x < 4294967296) (hf : exN x < 255) (B g : Nat) (T : TypeId) (cs : Array Value) (v : Value) (W : World) (st : StB B W g T cs W v []) (E : EnvF W) (he : exN x = 0) (h0 : mtN x = 0) :
    Calls Tryz.prog 182 #[v, .float .f32 x, .int .u8 103, .int .i64 (-1)] W fun e w' => ∃ v', e = .returned v' ∧ w'.ownsRow B 5 1 v' (ftoaT x).length (u8s (ftoaT x)) ∧ Below B W w' := by
  obtain ⟨hw0, hneg, hw1, ha1, ha2, ho1⟩ := parts x hx
  have hE0 := he
  have hM : mtN x = x % 8388608 := by unfold mtN; rw [if_pos he]
  have hM0 : ((x % 8388608 : Nat) : Int) = 0 := by rw [← hM, h0]; rfl
  rw [hM0] at ha2
  rw [he] at ha1
  have ht : ftoaT x = fmtT (sgB x) [] 0 := by unfold ftoaT; rw [if_pos h0]
  rw [ht]
  obtain ⟨SG, hSG⟩ : ∃ b, sgB x = b := ⟨_, rfl⟩
  rw [hSG] at hneg ⊢
  have KE := Lib.hid (fun (n : Nat) => efg_zero SG B g T cs v (W.drewN n) (st.keep (below_drewN (Below.refl _ _) n)).rebase)
  clear st E hf ho1 hM hM0 ht h0 hE0 he hSG
  go_enter Tryz.func182, Tryz.ntmps182
  go_upto_region 14 with fail
  go_quiet (fail)
  go_upto_region 31 with fail
  go_wp2_with fail
  refine (KE.out _).mono ?_
  rintro e w1 ⟨v1, rfl, st1⟩
  have HS := Lib.hid (And.intro st1.own ((below_drewN (Below.refl B W) _).trans st1.bel))
  clear st1
  go_wp2_with fail
  go_ret
  exact ⟨_, rfl, HS.out.1, HS.out.2⟩

set_option maxRecDepth 100000 in
set_option maxHeartbeats 16000000 in
theorem ftoa_sub (x : Nat) (hx : x < 4294967296) (hf : exN x < 255) (B g : Nat) (T : TypeId) (cs : Array Value) (v : Value) (W : World) (st : StB B W g T cs W v []) (E : EnvF W) (he : exN x = 0) (h0 : mtN x ≠ 0) :
    Calls Tryz.prog 182 #[v, .float .f32 x, .int .u8 103, .int .i64 (-1)] W fun e w' => ∃ v', e = .returned v' ∧ w'.ownsRow B 5 1 v' (ftoaT x).length (u8s (ftoaT x)) ∧ Below B W w' := by
  obtain ⟨hw0, hneg, hw1, ha1, ha2, ho1⟩ := parts x hx
  obtain ⟨ok, sh0, sh1, sh2, mn⟩ := sf_of h0 hf
  have hbl : Lib.bitLen (mtN x) ≤ 24 := by omega
  have hml : mtN x < 16777216 ∧ 1 ≤ mtN x := by refine ⟨?_, by omega⟩; unfold mtN; split <;> omega
  have hee : -126 ≤ exE x ∧ exE x ≤ 127 := by unfold exE; split <;> omega
  have hse : seE x = exE x - (shN x : Int) - 23 := rfl
  have hmn : mnN x = mtN x * 2 ^ shN x := rfl
  have hpos := ok.pos
  have hdp := ok.dp
  have ht : ftoaT x = fmtT (sgB x) (digD (shortF (mnN x) (seE x)).1.toNat) ((Lib.nDigits (shortF (mnN x) (seE x)).1.toNat : Int) + (shortF (mnN x) (seE x)).2) := by unfold ftoaT; rw [if_neg h0]
  have hur := shortF_range (mnN x) (seE x)
  have hM : mtN x = x % 8388608 := by unfold mtN; rw [if_pos he]
  have hEE : exE x = -126 := by unfold exE; rw [if_pos he]; rfl
  rw [← hM] at ha2
  rw [he] at ha1
  have KF := Lib.hid (fun w (h : EnvF w) => sc_shortFloat (mnN x) (seE x) ok w h)
  rw [ht]
  clear ht ok
  obtain ⟨u, hu0⟩ : ∃ u : Nat, (shortF (mnN x) (seE x)).1 = u := ⟨_, (Int.toNat_of_nonneg (by omega)).symm⟩
  obtain ⟨p, hp0⟩ : ∃ p, (shortF (mnN x) (seE x)).2 = p := ⟨_, rfl⟩
  rw [hu0, hp0] at KF ⊢
  rw [hu0] at hpos hur
  rw [hp0] at hdp
  clear hu0 hp0
  rw [Int.toNat_natCast]
  have hu : 1 ≤ u ∧ u < 18446744073709551616 := by omega
  have hp : -60 ≤ p ∧ p ≤ 41 := by omega
  have hn1 := nDigits_pos u
  have hsh : IntKind.i64.wrap (64 - (Lib.bitLen (mtN x) : Int)) = (shN x : Int) := by rw [IntKind.wrap_i64]; omega
  have hsl : IntKind.u64.wrap ((mtN x : Int) * 2 ^ shN x) = (mnN x : Int) := by
    have e : (mtN x : Int) * 2 ^ shN x = (mnN x : Int) := by rw [hmn, Int.natCast_mul, Int.natCast_pow]; rfl
    rw [e, IntKind.wrap_u64]; omega
  have hs1 : IntKind.i64.wrap (exE x - (shN x : Int)) = exE x - (shN x : Int) := by rw [IntKind.wrap_i64]; omega
  have hs2 : IntKind.i64.wrap (exE x - (shN x : Int) - 23) = seE x := by rw [hse, IntKind.wrap_i64]; omega
  have HL := Lib.hid (fun w => Tryz.bits_Len64 (mtN x : Int) w (by omega) (by omega))
  rw [Int.toNat_natCast] at HL
  have hdl := digD_len u
  have hd1 := digD_pos hu.1
  have hn20 := nDigits_le20 u hu.2
  have htk := trimK_le (Lib.decDigits u) (Lib.nDigits u)
  have hmz : decide ((mtN x : Int) = 0) = false := decide_eq_false (by omega)
  have hmz2 : ¬ ((mtN x : Int) = 0) := by omega
  obtain ⟨SG, hSG⟩ : ∃ b, sgB x = b := ⟨_, rfl⟩
  rw [hSG] at hneg ⊢
  clear hSG hpos hdp hur hbl
  have HS := Lib.hid st
  have HE := Lib.hid E
  have HM := Lib.hid (And.intro hmn (And.intro hse (And.intro hM hEE)))
  clear st E hmn hse hM
  rw [hEE] at hs1 hs2 hee
  go_enter Tryz.func182, Tryz.ntmps182
  go_upto_region 14 with fail
  go_quiet (fail)
  go_upto_region 33 with fail
  go_upto_region 34 with fail
  have HB0 := Lib.hid (And.intro (bnew (below_drewN (Below.refl W.heap.size W) nq) (ob := .cells zero32 234)) (Bx.new (W.drewN nq) 234 zero32))
  rw [show (W.drewN nq).heap.size = W.heap.size from rfl] at HB0
  show Code.wp _ _ _ _ ((W.drewN nq).alloc (.cells zero32 234))
  generalize (W.drewN nq).alloc (.cells zero32 234) = w1 at *
  go_wp2_with fail
  refine (HL.out _).mono ?_
  rintro e w' ⟨rfl, rfl⟩
  go_wp2_with fail
  refine (KF.out _ (HE.out.below HB0.out.1)).mono ?_
  rintro e w3 ⟨rfl, hb3⟩
  have HB := Lib.hid (And.intro (HB0.out.1.trans (hb3.mono HB0.out.1.size)) (HB0.out.2.keep hb3))
  have HU := Lib.hid (And.intro hu (And.intro hp (And.intro hdl (And.intro hd1 (And.intro hn20 (And.intro hn1 htk))))))
  clear hb3 HB0 hsl hs1 hs2 hsh mn sh0 sh1 sh2 hw1 ha1 ha2 KF HL hml hee hmz hmz2 hw0 hu hp hdl hd1 hn20 hn1 htk
  go_upto_region 38 with fail
  refine wp_region_inv 11 (fun q u' => u' = [.slice (some ⟨W.heap.size, 0, none⟩) 32 32, .int .u64 (u : Int), .int .i64 p, .int .u64 (u : Int), .int .i64 (Lib.nDigits u : Int), .tuple #[.int .i64 ((Lib.nDigits u : Int) + p), .int .i64 ((digD u).length : Int)], .tuple #[.int .i64 ((Lib.nDigits u : Int) + p), .int .i64 ((digD u).length : Int)], .int .i64 ((Lib.nDigits u : Int) + p), .int .i64 ((digD u).length : Int), .int .i64 ((Lib.nDigits u : Int) + p), .int .i64 ((digD u).length : Int)].getD q undef) (fun d vs w' => if d 5 then (Below W.heap.size W w' ∧ ∃ cs, Bx w' W.heap.size 234 cs ∧ ∀ (j : Nat) (y : Int), (digD u)[j]? = some y → cs[j]? = some (.int .u8 y)) else (Below W.heap.size W w' ∧ Bx w' W.heap.size 234 zero32)) (by kernel_rfl) (by kernel_rfl) ?_ ?_ ?_
  · intro vs
    exact ⟨HB.out.1.trans ((Below.refl _ _).drew.mono HB.out.1.size), HB.out.2.keep ((Below.refl _ _).drew)⟩
  · intro i o hi ho
    rcases (by omega : i = 0 ∨ i = 1 ∨ i = 2 ∨ i = 3 ∨ i = 4 ∨ i = 5 ∨ i = 6 ∨ i = 7 ∨ i = 8 ∨ i = 9 ∨ i = 10) with rfl | rfl | rfl | rfl | rfl | rfl | rfl | rfl | rfl | rfl | rfl
    all_goals simp only [List.getElem?_cons_zero, List.getElem?_cons_succ, Option.some.injEq] at ho
    all_goals subst ho
    all_goals intro d a0 wx hI hag hdep hun
    · have e0 := slot_eq (hag 16 rfl)
      exact inv_val (v := .slice (some ⟨W.heap.size, 0, none⟩) 32 32) (by simp [go_sem, e0]) (fun h => (by cases h)) rfl hI
    · have e0 := slot_eq (hag 20 rfl)
      exact inv_val (v := .int .u64 (u : Int)) (by simp [go_sem, e0]) (fun h => (by cases h)) rfl hI
    · have e0 := slot_eq (hag 21 rfl)
      exact inv_val (v := .int .i64 p) (by simp [go_sem, e0]) (fun h => (by cases h)) rfl hI
    · have e0 := slot_eq (hag 20 rfl)
      exact inv_val (v := .int .u64 (u : Int)) (by simp [go_sem, e0]) (fun h => (by cases h)) rfl hI
    · have e0 := slot_eq (hdep ⟨3, .data⟩ (by simp) rfl).1
      refine inv_call (f := 185) (args := #[.int .u64 (u : Int)]) (run_go_call Tryz.func185 (by kernel_rfl) (by kernel_rfl) _ _ _ _ _ _ _ _ _ _ (by simp [Act.eval, e0])) (fun h => (by cases h)) ?_
      have hbx : Below W.heap.size W wx := by split at hI <;> exact hI.1
      refine (Tryz.internal_strconv_numDigits u HU.out.1.1 HU.out.1.2 wx (HE.out.below hbx).p10).mono ?_
      rintro e w' ⟨rfl, rfl⟩
      exact ⟨_, rfl, rfl, hI⟩
    · have e0 := slot_eq (hdep ⟨0, .data⟩ (by simp) rfl).1
      have e1 := slot_eq (hdep ⟨1, .data⟩ (by simp) rfl).1
      have e2 := slot_eq (hdep ⟨2, .data⟩ (by simp) rfl).1
      have e3 := slot_eq (hdep ⟨4, .data⟩ (by simp) rfl).1
      refine inv_call (f := 208) (args := #[.slice (some ⟨W.heap.size, 0, none⟩) 32 32, .int .u64 (u : Int), .int .i64 p, .int .i64 (Lib.nDigits u : Int)]) (run_go_call Tryz.func208 (by kernel_rfl) (by kernel_rfl) _ _ _ _ _ _ _ _ _ _ (by simp [Act.eval, e0, e1, e2, e3])) (fun h => (by cases h)) ?_
      simp only [hun, Bool.false_eq_true, if_false] at hI
      refine (sc_setDigits W.heap.size u p wx hI.2 HU.out.1.1 HU.out.1.2 (by have := HU.out.2.1; omega)).mono ?_
      rintro e w' ⟨rfl, hb, hcs⟩
      exact ⟨_, rfl, rfl, hI.1.trans hb, hcs⟩
    · have e0 := slot_eq (hdep ⟨5, .data⟩ (by simp) rfl).1
      exact inv_val (v := .tuple #[.int .i64 ((Lib.nDigits u : Int) + p), .int .i64 ((digD u).length : Int)]) (by simp [go_sem, e0]) (fun h => (by cases h)) rfl hI
    · have e0 := slot_eq (hdep ⟨6, .data⟩ (by simp) rfl).1
      exact inv_val (v := .int .i64 ((Lib.nDigits u : Int) + p)) (by simp [go_sem, e0]) (fun h => (by cases h)) rfl hI
    · have e0 := slot_eq (hdep ⟨6, .data⟩ (by simp) rfl).1
      exact inv_val (v := .int .i64 ((digD u).length : Int)) (by simp [go_sem, e0]) (fun h => (by cases h)) rfl hI
    · have e0 := slot_eq (hdep ⟨7, .data⟩ (by simp) rfl).1
      exact inv_val (v := .int .i64 ((Lib.nDigits u : Int) + p)) (by simp [go_sem, e0]) (fun h => (by cases h)) rfl hI
    · have e0 := slot_eq (hdep ⟨8, .data⟩ (by simp) rfl).1
      exact inv_val (v := .int .i64 ((digD u).length : Int)) (by simp [go_sem, e0]) (fun h => (by cases h)) rfl hI
  · intro d vs w6 hd hI hA
    rw [hd 5 (by omega), if_pos rfl] at hI
    obtain ⟨b6, cs6, x6, hc6⟩ := hI
    have k0 : vs 0 = .slice (some ⟨W.heap.size, 0, none⟩) 32 32 := hA 0 (by omega)
    have k1 : vs 1 = .int .u64 (u : Int) := hA 1 (by omega)
    have k2 : vs 2 = .int .i64 p := hA 2 (by omega)
    have k3 : vs 3 = .int .u64 (u : Int) := hA 3 (by omega)
    have k4 : vs 4 = .int .i64 (Lib.nDigits u : Int) := hA 4 (by omega)
    have k5 : vs 5 = .tuple #[.int .i64 ((Lib.nDigits u : Int) + p), .int .i64 ((digD u).length : Int)] := hA 5 (by omega)
    have k6 : vs 6 = .tuple #[.int .i64 ((Lib.nDigits u : Int) + p), .int .i64 ((digD u).length : Int)] := hA 6 (by omega)
    have k7 : vs 7 = .int .i64 ((Lib.nDigits u : Int) + p) := hA 7 (by omega)
    have k8 : vs 8 = .int .i64 ((digD u).length : Int) := hA 8 (by omega)
    have k9 : vs 9 = .int .i64 ((Lib.nDigits u : Int) + p) := hA 9 (by omega)
    have k10 : vs 10 = .int .i64 ((digD u).length : Int) := hA 10 (by omega)
    simp only [putAll, dstAt, List.getElem?_toArray, List.getElem?_cons_zero, List.getElem?_cons_succ, Option.bind_some, Act.put, List.setIfInBounds_toArray, List.set_cons_zero, List.set_cons_succ, k0, k1, k2, k3, k4, k5, k6, k7, k8, k9, k10]
    clear hA hd k0 k1 k2 k3 k4 k5 k6 k7 k8 k9 k10
    have HW := Lib.hid (And.intro b6 (And.intro x6 hc6))
    clear b6 x6 hc6 HB
    go_wp2_with fail
    refine (sc_fmtEFG SG (digD u) ((Lib.nDigits u : Int) + p) B W.heap.size 234 cs6 v w6 ⟨(HS.out.keep HW.out.1).own, Below.refl _ _, ⟨_, HW.out.2.1⟩, .inl (by decide), Nat.le_trans HS.out.base HW.out.1.size⟩ (by have := HU.out; omega) HW.out.2.2 HU.out.2.2.2.1 (by have := HU.out; omega)).mono ?_
    rintro e w7 ⟨v7, rfl, st7⟩
    have HR := Lib.hid (And.intro st7.own ((HW.out.1.mono HS.out.base).trans st7.bel))
    clear st7
    go_wp2_with fail
    go_ret
    exact ⟨_, rfl, HR.out.1, HR.out.2⟩

set_option maxRecDepth 100000 in
set_option maxHeartbeats 16000000 in
theorem ftoa_nrm (x : Nat) (hx : x < 4294967296) (hf : exN x < 255) (B g : Nat) (T : TypeId) (cs : Array Value) (v : Value) (W : World) (st : StB B W g T cs W v []) (E : EnvF W) (he : exN x ≠ 0) (h0 : mtN x ≠ 0) :
    Calls Tryz.prog 182 #[v, .float .f32 x, .int .u8 103, .int .i64 (-1)] W fun e w' => ∃ v', e = .returned v' ∧ w'.ownsRow B 5 1 v' (ftoaT x).length (u8s (ftoaT x)) ∧ Below B W w' := by
  obtain ⟨hw0, hneg, hw1, ha1, ha2, ho1⟩ := parts x hx
  obtain ⟨ok, sh0, sh1, sh2, mn⟩ := sf_of h0 hf
  have hbl : Lib.bitLen (mtN x) ≤ 24 := by omega
  have hml : mtN x < 16777216 ∧ 1 ≤ mtN x := by refine ⟨?_, by omega⟩; unfold mtN; split <;> omega
  have hee : -126 ≤ exE x ∧ exE x ≤ 127 := by unfold exE; split <;> omega
  have hse : seE x = exE x - (shN x : Int) - 23 := rfl
  have hmn : mnN x = mtN x * 2 ^ shN x := rfl
  have hpos := ok.pos
  have hdp := ok.dp
  have ht : ftoaT x = fmtT (sgB x) (digD (shortF (mnN x) (seE x)).1.toNat) ((Lib.nDigits (shortF (mnN x) (seE x)).1.toNat : Int) + (shortF (mnN x) (seE x)).2) := by unfold ftoaT; rw [if_neg h0]
  have hur := shortF_range (mnN x) (seE x)
  have hM : mtN x = x % 8388608 + 8388608 := by unfold mtN; rw [if_neg he]
  have hEE : exE x = (exN x : Int) - 127 := by unfold exE; rw [if_neg he]
  obtain ⟨R, hR⟩ : ∃ r, x % 8388608 = r := ⟨_, rfl⟩
  rw [← hM, hR] at ho1
  rw [hR] at ha2
  rw [hR] at hM
  have hnz : decide ((exN x : Int) = 0) = false := decide_eq_false (by omega)
  have hn5 : decide ((exN x : Int) = 255) = false := decide_eq_false (by omega)
  have hwe : IntKind.i64.wrap ((exN x : Int) + -127) = exE x := by rw [hEE, IntKind.wrap_i64]; omega
  have hnz2 : ¬ ((exN x : Int) = 0) := by omega
  have hn52 : ¬ ((exN x : Int) = 255) := by omega
  have hnz3 : ¬ (exN x = 0) := by omega
  have KF := Lib.hid (fun w (h : EnvF w) => sc_shortFloat (mnN x) (seE x) ok w h)
  rw [ht]
  clear ht ok
  obtain ⟨u, hu0⟩ : ∃ u : Nat, (shortF (mnN x) (seE x)).1 = u := ⟨_, (Int.toNat_of_nonneg (by omega)).symm⟩
  obtain ⟨p, hp0⟩ : ∃ p, (shortF (mnN x) (seE x)).2 = p := ⟨_, rfl⟩
  rw [hu0, hp0] at KF ⊢
  rw [hu0] at hpos hur
  rw [hp0] at hdp
  clear hu0 hp0
  rw [Int.toNat_natCast]
  have hu : 1 ≤ u ∧ u < 18446744073709551616 := by omega
  have hp : -60 ≤ p ∧ p ≤ 41 := by omega
  have hn1 := nDigits_pos u
  have hsh : IntKind.i64.wrap (64 - (Lib.bitLen (mtN x) : Int)) = (shN x : Int) := by rw [IntKind.wrap_i64]; omega
  have hsl : IntKind.u64.wrap ((mtN x : Int) * 2 ^ shN x) = (mnN x : Int) := by
    have e : (mtN x : Int) * 2 ^ shN x = (mnN x : Int) := by rw [hmn, Int.natCast_mul, Int.natCast_pow]; rfl
    rw [e, IntKind.wrap_u64]; omega
  have hs1 : IntKind.i64.wrap (exE x - (shN x : Int)) = exE x - (shN x : Int) := by rw [IntKind.wrap_i64]; omega
  have hs2 : IntKind.i64.wrap (exE x - (shN x : Int) - 23) = seE x := by rw [hse, IntKind.wrap_i64]; omega
  have HL := Lib.hid (fun w => Tryz.bits_Len64 (mtN x : Int) w (by omega) (by omega))
  rw [Int.toNat_natCast] at HL
  have hdl := digD_len u
  have hd1 := digD_pos hu.1
  have hn20 := nDigits_le20 u hu.2
  have htk := trimK_le (Lib.decDigits u) (Lib.nDigits u)
  have hmz : decide ((mtN x : Int) = 0) = false := decide_eq_false (by omega)
  have hmz2 : ¬ ((mtN x : Int) = 0) := by omega
  obtain ⟨SG, hSG⟩ : ∃ b, sgB x = b := ⟨_, rfl⟩
  rw [hSG] at hneg ⊢
  clear hSG hpos hdp hur hbl
  have hexl : IntKind.i64.wrap (exN x : Int) = (exN x : Int) := by rw [IntKind.wrap_i64]; omega
  have HS := Lib.hid st
  have HE := Lib.hid E
  have HM := Lib.hid (And.intro hmn (And.intro hse (And.intro hM hEE)))
  clear st E hmn hse hM
  clear hEE
  go_enter Tryz.func182, Tryz.ntmps182
  go_upto_region 14 with fail
  go_quiet (fail)
  go_upto_region 33 with fail
  go_upto_region 34 with fail
  have HB0 := Lib.hid (And.intro (bnew (below_drewN (Below.refl W.heap.size W) nq) (ob := .cells zero32 234)) (Bx.new (W.drewN nq) 234 zero32))
  rw [show (W.drewN nq).heap.size = W.heap.size from rfl] at HB0
  show Code.wp _ _ _ _ ((W.drewN nq).alloc (.cells zero32 234))
  generalize (W.drewN nq).alloc (.cells zero32 234) = w1 at *
  go_wp2_with fail
  refine (HL.out _).mono ?_
  rintro e w' ⟨rfl, rfl⟩
  go_wp2_with fail
  refine (KF.out _ (HE.out.below HB0.out.1)).mono ?_
  rintro e w3 ⟨rfl, hb3⟩
  have HB := Lib.hid (And.intro (HB0.out.1.trans (hb3.mono HB0.out.1.size)) (HB0.out.2.keep hb3))
  have HU := Lib.hid (And.intro hu (And.intro hp (And.intro hdl (And.intro hd1 (And.intro hn20 (And.intro hn1 htk))))))
  clear hb3 HB0 hsl hs1 hs2 hsh mn sh0 sh1 sh2 hw1 ha1 ha2 KF HL hml hee hmz hmz2 hw0 hu hp hdl hd1 hn20 hn1 htk
  go_upto_region 38 with fail
  refine wp_region_inv 11 (fun q u' => u' = [.slice (some ⟨W.heap.size, 0, none⟩) 32 32, .int .u64 (u : Int), .int .i64 p, .int .u64 (u : Int), .int .i64 (Lib.nDigits u : Int), .tuple #[.int .i64 ((Lib.nDigits u : Int) + p), .int .i64 ((digD u).length : Int)], .tuple #[.int .i64 ((Lib.nDigits u : Int) + p), .int .i64 ((digD u).length : Int)], .int .i64 ((Lib.nDigits u : Int) + p), .int .i64 ((digD u).length : Int), .int .i64 ((Lib.nDigits u : Int) + p), .int .i64 ((digD u).length : Int)].getD q undef) (fun d vs w' => if d 5 then (Below W.heap.size W w' ∧ ∃ cs, Bx w' W.heap.size 234 cs ∧ ∀ (j : Nat) (y : Int), (digD u)[j]? = some y → cs[j]? = some (.int .u8 y)) else (Below W.heap.size W w' ∧ Bx w' W.heap.size 234 zero32)) (by kernel_rfl) (by kernel_rfl) ?_ ?_ ?_
  · intro vs
    exact ⟨HB.out.1.trans ((Below.refl _ _).drew.mono HB.out.1.size), HB.out.2.keep ((Below.refl _ _).drew)⟩
  · intro i o hi ho
    rcases (by omega : i = 0 ∨ i = 1 ∨ i = 2 ∨ i = 3 ∨ i = 4 ∨ i = 5 ∨ i = 6 ∨ i = 7 ∨ i = 8 ∨ i = 9 ∨ i = 10) with rfl | rfl | rfl | rfl | rfl | rfl | rfl | rfl | rfl | rfl | rfl
    all_goals simp only [List.getElem?_cons_zero, List.getElem?_cons_succ, Option.some.injEq] at ho
    all_goals subst ho
    all_goals intro d a0 wx hI hag hdep hun
    · have e0 := slot_eq (hag 16 rfl)
      exact inv_val (v := .slice (some ⟨W.heap.size, 0, none⟩) 32 32) (by simp [go_sem, e0]) (fun h => (by cases h)) rfl hI
    · have e0 := slot_eq (hag 20 rfl)
      exact inv_val (v := .int .u64 (u : Int)) (by simp [go_sem, e0]) (fun h => (by cases h)) rfl hI
    · have e0 := slot_eq (hag 21 rfl)
      exact inv_val (v := .int .i64 p) (by simp [go_sem, e0]) (fun h => (by cases h)) rfl hI
    · have e0 := slot_eq (hag 20 rfl)
      exact inv_val (v := .int .u64 (u : Int)) (by simp [go_sem, e0]) (fun h => (by cases h)) rfl hI
    · have e0 := slot_eq (hdep ⟨3, .data⟩ (by simp) rfl).1
      refine inv_call (f := 185) (args := #[.int .u64 (u : Int)]) (run_go_call Tryz.func185 (by kernel_rfl) (by kernel_rfl) _ _ _ _ _ _ _ _ _ _ (by simp [Act.eval, e0])) (fun h => (by cases h)) ?_
      have hbx : Below W.heap.size W wx := by split at hI <;> exact hI.1
      refine (Tryz.internal_strconv_numDigits u HU.out.1.1 HU.out.1.2 wx (HE.out.below hbx).p10).mono ?_
      rintro e w' ⟨rfl, rfl⟩
      exact ⟨_, rfl, rfl, hI⟩
    · have e0 := slot_eq (hdep ⟨0, .data⟩ (by simp) rfl).1
      have e1 := slot_eq (hdep ⟨1, .data⟩ (by simp) rfl).1
      have e2 := slot_eq (hdep ⟨2, .data⟩ (by simp) rfl).1
      have e3 := slot_eq (hdep ⟨4, .data⟩ (by simp) rfl).1
      refine inv_call (f := 208) (args := #[.slice (some ⟨W.heap.size, 0, none⟩) 32 32, .int .u64 (u : Int), .int .i64 p, .int .i64 (Lib.nDigits u : Int)]) (run_go_call Tryz.func208 (by kernel_rfl) (by kernel_rfl) _ _ _ _ _ _ _ _ _ _ (by simp [Act.eval, e0, e1, e2, e3])) (fun h => (by cases h)) ?_
      simp only [hun, Bool.false_eq_true, if_false] at hI
      refine (sc_setDigits W.heap.size u p wx hI.2 HU.out.1.1 HU.out.1.2 (by have := HU.out.2.1; omega)).mono ?_
      rintro e w' ⟨rfl, hb, hcs⟩
      exact ⟨_, rfl, rfl, hI.1.trans hb, hcs⟩
    · have e0 := slot_eq (hdep ⟨5, .data⟩ (by simp) rfl).1
      exact inv_val (v := .tuple #[.int .i64 ((Lib.nDigits u : Int) + p), .int .i64 ((digD u).length : Int)]) (by simp [go_sem, e0]) (fun h => (by cases h)) rfl hI
    · have e0 := slot_eq (hdep ⟨6, .data⟩ (by simp) rfl).1
      exact inv_val (v := .int .i64 ((Lib.nDigits u : Int) + p)) (by simp [go_sem, e0]) (fun h => (by cases h)) rfl hI
    · have e0 := slot_eq (hdep ⟨6, .data⟩ (by simp) rfl).1
      exact inv_val (v := .int .i64 ((digD u).length : Int)) (by simp [go_sem, e0]) (fun h => (by cases h)) rfl hI
    · have e0 := slot_eq (hdep ⟨7, .data⟩ (by simp) rfl).1
      exact inv_val (v := .int .i64 ((Lib.nDigits u : Int) + p)) (by simp [go_sem, e0]) (fun h => (by cases h)) rfl hI
    · have e0 := slot_eq (hdep ⟨8, .data⟩ (by simp) rfl).1
      exact inv_val (v := .int .i64 ((digD u).length : Int)) (by simp [go_sem, e0]) (fun h => (by cases h)) rfl hI
  · intro d vs w6 hd hI hA
    rw [hd 5 (by omega), if_pos rfl] at hI
    obtain ⟨b6, cs6, x6, hc6⟩ := hI
    have k0 : vs 0 = .slice (some ⟨W.heap.size, 0, none⟩) 32 32 := hA 0 (by omega)
    have k1 : vs 1 = .int .u64 (u : Int) := hA 1 (by omega)
    have k2 : vs 2 = .int .i64 p := hA 2 (by omega)
    have k3 : vs 3 = .int .u64 (u : Int) := hA 3 (by omega)
    have k4 : vs 4 = .int .i64 (Lib.nDigits u : Int) := hA 4 (by omega)
    have k5 : vs 5 = .tuple #[.int .i64 ((Lib.nDigits u : Int) + p), .int .i64 ((digD u).length : Int)] := hA 5 (by omega)
    have k6 : vs 6 = .tuple #[.int .i64 ((Lib.nDigits u : Int) + p), .int .i64 ((digD u).length : Int)] := hA 6 (by omega)
    have k7 : vs 7 = .int .i64 ((Lib.nDigits u : Int) + p) := hA 7 (by omega)
    have k8 : vs 8 = .int .i64 ((digD u).length : Int) := hA 8 (by omega)
    have k9 : vs 9 = .int .i64 ((Lib.nDigits u : Int) + p) := hA 9 (by omega)
    have k10 : vs 10 = .int .i64 ((digD u).length : Int) := hA 10 (by omega)
    simp only [putAll, dstAt, List.getElem?_toArray, List.getElem?_cons_zero, List.getElem?_cons_succ, Option.bind_some, Act.put, List.setIfInBounds_toArray, List.set_cons_zero, List.set_cons_succ, k0, k1, k2, k3, k4, k5, k6, k7, k8, k9, k10]
    clear hA hd k0 k1 k2 k3 k4 k5 k6 k7 k8 k9 k10
    have HW := Lib.hid (And.intro b6 (And.intro x6 hc6))
    clear b6 x6 hc6 HB hnz hnz2 hnz3 hn5 hn52 hwe ho1
    go_wp2_with fail
    refine (sc_fmtEFG SG (digD u) ((Lib.nDigits u : Int) + p) B W.heap.size 234 cs6 v w6 ⟨(HS.out.keep HW.out.1).own, Below.refl _ _, ⟨_, HW.out.2.1⟩, .inl (by decide), Nat.le_trans HS.out.base HW.out.1.size⟩ (by have := HU.out; omega) HW.out.2.2 HU.out.2.2.2.1 (by have := HU.out; omega)).mono ?_
    rintro e w7 ⟨v7, rfl, st7⟩
    have HR := Lib.hid (And.intro st7.own ((HW.out.1.mono HS.out.base).trans st7.bel))
    clear st7
    go_wp2_with fail
    go_ret
    exact ⟨_, rfl, HR.out.1, HR.out.2⟩

/-- ftoa32 at a single that is a number. -/
theorem sc_ftoa32 (x : Nat) (hx : x < 4294967296) (hf : exN x < 255) (B g : Nat) (T : TypeId) (cs : Array Value) (v : Value) (W : World) (st : StB B W g T cs W v []) (E : EnvF W) :
    Calls Tryz.prog 182 #[v, .float .f32 x, .int .u8 103, .int .i64 (-1)] W fun e w' => ∃ v', e = .returned v' ∧ w'.ownsRow B 5 1 v' (ftoaT x).length (u8s (ftoaT x)) ∧ Below B W w' := by
  by_cases he : exN x = 0
  · by_cases h0 : mtN x = 0
    · exact ftoa_zero x hx hf B g T cs v W st E he h0
    · exact ftoa_sub x hx hf B g T cs v W st E he h0
  · have h0 : mtN x ≠ 0 := by unfold mtN; rw [if_neg he]; omega
    exact ftoa_nrm x hx hf B g T cs v W st E he h0
end Go.Proofs.YticekgnmiaidjaaGreatDoor
