/- Codes as text: conform.PrintCode and dyeref1.PrintCode. (printed by gen_codb.py) -/
import Derived.Test.YtemlabmmafcapaaGreatDoorCdC
import Derived.Test.YtemlabmmafcapaaGreatDoorShelf
import Derived.Test.YtemlabmmafcapaaGreatDoorGrd
import Derived.Laws.IdiomStrings
namespace Go.Proofs.YtemlabmmafcapaaGreatDoor
open Go.RowKit

def two (n : Nat) : ByteArray := ⟨#[UInt8.ofNat (48 + n / 10), UInt8.ofNat (48 + n % 10)]⟩
def sepB (r : Int) : ByteArray := if r = 29 then ⟨#[59]⟩ else ⟨#[58]⟩
def codeB (r : Int) (h m s f : Nat) : ByteArray := two h ++ ⟨#[58]⟩ ++ two m ++ ⟨#[58]⟩ ++ two s ++ sepB r ++ two f
theorem two_size (n : Nat) : (two n).size = 2 := rfl
theorem c58_size : (⟨#[58]⟩ : ByteArray).size = 1 := rfl
theorem c59_size : (⟨#[59]⟩ : ByteArray).size = 1 := rfl
theorem sep_size (r : Int) : (sepB r).size = 1 := by unfold sepB; split <;> rfl
theorem two_digits {n : Nat} (hn : n < 100) : (two n).data.toList = (if n < 10 then [48] else []) ++ Lib.decDigits n ∧ (Lib.decDigits n).length = if n < 10 then 1 else 2 := by
  have h : ∀ k : Fin 100, (two k.val).data.toList = (if k.val < 10 then [48] else []) ++ Lib.decDigits k.val ∧ (Lib.decDigits k.val).length = if k.val < 10 then 1 else 2 := by decide +kernel
  exact h ⟨n, hn⟩

/-- A call through a function value in a slot. -/
theorem run_go_callv2 {P : Program} {f : FuncId} {fn : Func} (hf : P.funcs[f]? = some fn) (hn : (fn.name == "runtime.NumGoroutine") = false) (hb : fn.body.isNone = false)
    (a : Act) (dst : Option Tmp) (t : Tmp) (cap : Array Value) (xs : Array Operand) (ats : Array TypeId) (ty : TypeId) (pos : String) (after : Array Edge) (guard : Option (Nat × Bool)) (w : World) (args : Array Value)
    (ht : a.tmps[t]?.getD undef = .func (.func f) #[] cap) (hx : xs.map a.eval ++ cap = args) :
    (execOp a.eval { dst, op := .call { callee := .value (.tmp t), args := xs, argTypes := ats }, type := ty, pos, after, guard }).run P w = .ok (.enter f args) w := by
  have h1 : fn.name ≠ "runtime.NumGoroutine" := by simpa using hn
  have h2 : ¬ fn.body = none := by intro e; rw [e] at hb; cases hb
  subst hx
  have ht' : a.eval (.tmp t) = .func (.func f) #[] cap := by simpa [Act.eval] using ht
  simp only [execOp, resolve, ht', Deferred.ofValue]
  simp [invoke, callFunc, hf, h1, h2]

set_option maxRecDepth 100000 in
set_option maxHeartbeats 2000000 in
theorem conform_two (n : Nat) (W : World) (hn : n < 100) : Calls Tryz.prog 39 #[.int .i64 (n : Int)] W fun e w' => e = .returned (.string (two n)) ∧ Below W.heap.size W w' := by
  have k1 : (0 : Int) ≤ (n : Int) / 10 := by omega
  have k2 : (n : Int) / 10 < 10 := by omega
  have k3 : (0 : Int) ≤ (n : Int) % 10 := by omega
  have k4 : (n : Int) % 10 < 10 := by omega
  have u1 : ((UInt8.ofNat (48 + n / 10)).toNat : Int) = 48 + (n : Int) / 10 := by rw [UInt8.toNat_ofNat', Nat.mod_eq_of_lt (by omega)]; omega
  have u2 : ((UInt8.ofNat (48 + n % 10)).toNat : Int) = 48 + (n : Int) % 10 := by rw [UInt8.toNat_ofNat', Nat.mod_eq_of_lt (by omega)]; omega
  have ht : two n = ⟨#[UInt8.ofNat (48 + n / 10), UInt8.ofNat (48 + n % 10)]⟩ := rfl
  generalize UInt8.ofNat (48 + n / 10) = b1 at u1 ht
  generalize UInt8.ofNat (48 + n % 10) = b2 at u2 ht
  rw [ht]
  clear ht
  have hcv := run_convert_bytes_back (P := Tryz.prog) (W.alloc (.cells #[.int .u8 (48 + (n : Int) / 10), .int .u8 (48 + (n : Int) % 10)] 5)) 46 9 5 ⟨W.heap.size, 0, none⟩ 2 [b1, b2] Tryz.underlying46 Tryz.underlying5 Tryz.underlying9 (fun j hj => by
    have x := (Bx.new W 5 #[.int .u8 (48 + (n : Int) / 10), .int .u8 (48 + (n : Int) % 10)]).all.1 j
    have ha : (⟨W.heap.size, 0, none⟩ : Addr).add j = ⟨W.heap.size, j, none⟩ := by unfold Addr.add; split <;> simp_all
    rw [ha, x]
    simp only [List.length_cons, List.length_nil] at hj
    rcases (by omega : j = 0 ∨ j = 1) with rfl | rfl
    · exact congrArg some (congrArg (Value.int .u8) u1.symm)
    · exact congrArg some (congrArg (Value.int .u8) u2.symm))
  have hl : ([b1, b2] : List UInt8).length = 2 := rfl
  rw [hl] at hcv
  clear u1 u2 hl
  go_enter Tryz.func39, Tryz.ntmps39
  go_wp2_with fail
  go_ret
  exact ⟨rfl, bnew (Below.refl _ W)⟩

set_option maxRecDepth 100000 in
set_option maxHeartbeats 4000000 in
theorem conform_PrintCode_ok (r : Int) (h m s f : Nat) (W : World) (hE : codeE r h m s f = 0) : Calls Tryz.prog 18 #[.int .i64 r, .agg #[.int .i64 (h : Int), .int .i64 (m : Int), .int .i64 (s : Int), .int .i64 (f : Int)]] W fun e w' => e = .returned (.tuple #[.string (codeB r h m s f), .int .i64 0]) ∧ Below W.heap.size W w' := by
  obtain ⟨hr, _, h1, _, m1, _, s1, _, f1⟩ := code_right hE
  obtain ⟨_, c0, c1⟩ := sec_cntd hr
  have HE := Lib.hid hE
  clear hE hr
  by_cases b1 : r = 29
  · have eb1 : (r == 29) = true := by simpa using b1
    have hsp : sepB r = ⟨#[59]⟩ := if_pos b1
    have hcb : codeB r h m s f = two h ++ ⟨#[58]⟩ ++ two m ++ ⟨#[58]⟩ ++ two s ++ ⟨#[59]⟩ ++ two f := by unfold codeB; rw [hsp]
    rw [hcb]
    clear hcb hsp b1

    go_enter Tryz.func18, Tryz.ntmps18
    go_upto_region 1 with fail
    refine name_world ?_
    intro w0 hw0
    have x3 : Bx w0 W.heap.size 61 #[.int .i64 (h : Int), .int .i64 (m : Int), .int .i64 (s : Int), .int .i64 (f : Int)] := by rw [hw0]; exact Bx.new _ _ _
    have B : Below W.heap.size W w0 := by rw [hw0]; exact bnew (Below.refl _ W)
    clear hw0
    obtain ⟨q3, f3, l3⟩ := x3.all
    go_wp2_with fail
    refine (conform_checkCode r h m s f _).mono ?_
    rintro e w1 ⟨rfl, hb1⟩
    replace x3 := x3.keep hb1
    replace B := bcall B hb1
    rw [HE.out]
    clear hb1 q3 f3 l3
    obtain ⟨q3, f3, l3⟩ := x3.all
    go_upto_region 8 with fail
    clear q3 f3 l3
    refine name_world ?_
    intro wz hwz
    rw [← hwz] at x3 B
    clear hwz
    refine wp_region_rel 23 (fun q u w' => u = [.func (.func 39) #[] #[], .pointer (some ⟨W.heap.size, 0, none⟩), .int .i64 (h : Int), .string (two h), .string (two h ++ ⟨#[58]⟩), .func (.func 39) #[] #[], .pointer (some ⟨W.heap.size, 1, none⟩), .int .i64 (m : Int), .string (two m), .string (two h ++ ⟨#[58]⟩ ++ two m), .string (two h ++ ⟨#[58]⟩ ++ two m ++ ⟨#[58]⟩), .func (.func 39) #[] #[], .pointer (some ⟨W.heap.size, 2, none⟩), .int .i64 (s : Int), .string (two s), .string (two h ++ ⟨#[58]⟩ ++ two m ++ ⟨#[58]⟩ ++ two s), .string (⟨#[59]⟩), .string (two h ++ ⟨#[58]⟩ ++ two m ++ ⟨#[58]⟩ ++ two s ++ ⟨#[59]⟩), .func (.func 39) #[] #[], .pointer (some ⟨W.heap.size, 3, none⟩), .int .i64 (f : Int), .string (two f), .string (two h ++ ⟨#[58]⟩ ++ two m ++ ⟨#[58]⟩ ++ two s ++ ⟨#[59]⟩ ++ two f)].getD q undef) (fun _ => false) (fun w' => Below wz.heap.size wz w') (by kernel_rfl) (by kernel_rfl)
      (fun _ _ h e => e.trans (h.mono e.size)) (fun t u a b hb h => ?_) (Below.refl _ _).drew ?_ ?_
    · exact h
    · intro t op ht hop
      rcases (by omega : t = 0 ∨ t = 1 ∨ t = 2 ∨ t = 3 ∨ t = 4 ∨ t = 5 ∨ t = 6 ∨ t = 7 ∨ t = 8 ∨ t = 9 ∨ t = 10 ∨ t = 11 ∨ t = 12 ∨ t = 13 ∨ t = 14 ∨ t = 15 ∨ t = 16 ∨ t = 17 ∨ t = 18 ∨ t = 19 ∨ t = 20 ∨ t = 21 ∨ t = 22) with rfl | rfl | rfl | rfl | rfl | rfl | rfl | rfl | rfl | rfl | rfl | rfl | rfl | rfl | rfl | rfl | rfl | rfl | rfl | rfl | rfl | rfl | rfl
      all_goals simp only [List.getElem?_cons_zero, List.getElem?_cons_succ, Option.some.injEq] at hop
      all_goals subst hop
      all_goals intro a wx hE hag hdep
      · have e0 := slot_eq (hag 7 rfl)
        exact rel_pure _ rfl rfl (by simp [go_sem, e0])
      · have e0 := slot_eq (hag 3 rfl)
        exact rel_pure _ rfl rfl (by simp [go_sem, e0])
      · have e0 := slot_eq (hdep ⟨1, .data⟩ (by simp) rfl)
        have hq := (x3.keep hE).all.1
        exact rel_pure _ rfl rfl (by simp [go_sem, e0, hq])
      · have e0 := slot_eq (hdep ⟨0, .data⟩ (by simp) rfl)
        have e1 := slot_eq (hdep ⟨2, .data⟩ (by simp) rfl)
        refine rel_call (run_go_callv2 (args := #[.int .i64 (h : Int)]) Tryz.func39 (by kernel_rfl) (by kernel_rfl) _ _ _ _ _ _ _ _ _ _ _ e0 (by simp [Act.eval, e1])) rfl ?_
        refine (conform_two h wx (by omega)).mono ?_
        rintro e w' ⟨rfl, hbx⟩
        exact ⟨_, rfl, rfl, hbx⟩
      · have e0 := slot_eq (hdep ⟨3, .data⟩ (by simp) rfl)
        exact rel_pure _ rfl rfl (by simp [go_sem, e0, two_size, c58_size, c59_size, ByteArray.size_append])
      · have e0 := slot_eq (hag 7 rfl)
        exact rel_pure _ rfl rfl (by simp [go_sem, e0])
      · have e0 := slot_eq (hag 3 rfl)
        exact rel_pure _ rfl rfl (by simp [go_sem, e0])
      · have e0 := slot_eq (hdep ⟨6, .data⟩ (by simp) rfl)
        have hq := (x3.keep hE).all.1
        exact rel_pure _ rfl rfl (by simp [go_sem, e0, hq])
      · have e0 := slot_eq (hdep ⟨5, .data⟩ (by simp) rfl)
        have e1 := slot_eq (hdep ⟨7, .data⟩ (by simp) rfl)
        refine rel_call (run_go_callv2 (args := #[.int .i64 (m : Int)]) Tryz.func39 (by kernel_rfl) (by kernel_rfl) _ _ _ _ _ _ _ _ _ _ _ e0 (by simp [Act.eval, e1])) rfl ?_
        refine (conform_two m wx (by omega)).mono ?_
        rintro e w' ⟨rfl, hbx⟩
        exact ⟨_, rfl, rfl, hbx⟩
      · have e0 := slot_eq (hdep ⟨4, .data⟩ (by simp) rfl)
        have e1 := slot_eq (hdep ⟨8, .data⟩ (by simp) rfl)
        exact rel_pure _ rfl rfl (by simp [go_sem, e0, e1, two_size, c58_size, c59_size, ByteArray.size_append])
      · have e0 := slot_eq (hdep ⟨9, .data⟩ (by simp) rfl)
        exact rel_pure _ rfl rfl (by simp [go_sem, e0, two_size, c58_size, c59_size, ByteArray.size_append])
      · have e0 := slot_eq (hag 7 rfl)
        exact rel_pure _ rfl rfl (by simp [go_sem, e0])
      · have e0 := slot_eq (hag 3 rfl)
        exact rel_pure _ rfl rfl (by simp [go_sem, e0])
      · have e0 := slot_eq (hdep ⟨12, .data⟩ (by simp) rfl)
        have hq := (x3.keep hE).all.1
        exact rel_pure _ rfl rfl (by simp [go_sem, e0, hq])
      · have e0 := slot_eq (hdep ⟨11, .data⟩ (by simp) rfl)
        have e1 := slot_eq (hdep ⟨13, .data⟩ (by simp) rfl)
        refine rel_call (run_go_callv2 (args := #[.int .i64 (s : Int)]) Tryz.func39 (by kernel_rfl) (by kernel_rfl) _ _ _ _ _ _ _ _ _ _ _ e0 (by simp [Act.eval, e1])) rfl ?_
        refine (conform_two s wx (by omega)).mono ?_
        rintro e w' ⟨rfl, hbx⟩
        exact ⟨_, rfl, rfl, hbx⟩
      · have e0 := slot_eq (hdep ⟨10, .data⟩ (by simp) rfl)
        have e1 := slot_eq (hdep ⟨14, .data⟩ (by simp) rfl)
        exact rel_pure _ rfl rfl (by simp [go_sem, e0, e1, two_size, c58_size, c59_size, ByteArray.size_append])
      · have e0 := slot_eq (hag 8 rfl)
        exact rel_pure _ rfl rfl (by simp [go_sem, e0])
      · have e0 := slot_eq (hdep ⟨15, .data⟩ (by simp) rfl)
        have e1 := slot_eq (hdep ⟨16, .data⟩ (by simp) rfl)
        exact rel_pure _ rfl rfl (by simp [go_sem, e0, e1, two_size, c58_size, c59_size, ByteArray.size_append])
      · have e0 := slot_eq (hag 7 rfl)
        exact rel_pure _ rfl rfl (by simp [go_sem, e0])
      · have e0 := slot_eq (hag 3 rfl)
        exact rel_pure _ rfl rfl (by simp [go_sem, e0])
      · have e0 := slot_eq (hdep ⟨19, .data⟩ (by simp) rfl)
        have hq := (x3.keep hE).all.1
        exact rel_pure _ rfl rfl (by simp [go_sem, e0, hq])
      · have e0 := slot_eq (hdep ⟨18, .data⟩ (by simp) rfl)
        have e1 := slot_eq (hdep ⟨20, .data⟩ (by simp) rfl)
        refine rel_call (run_go_callv2 (args := #[.int .i64 (f : Int)]) Tryz.func39 (by kernel_rfl) (by kernel_rfl) _ _ _ _ _ _ _ _ _ _ _ e0 (by simp [Act.eval, e1])) rfl ?_
        refine (conform_two f wx (by omega)).mono ?_
        rintro e w' ⟨rfl, hbx⟩
        exact ⟨_, rfl, rfl, hbx⟩
      · have e0 := slot_eq (hdep ⟨17, .data⟩ (by simp) rfl)
        have e1 := slot_eq (hdep ⟨21, .data⟩ (by simp) rfl)
        exact rel_pure _ rfl rfl (by simp [go_sem, e0, e1, two_size, c58_size, c59_size, ByteArray.size_append])
    · intro vs wy hE hvs _
      have kz : vs 22 = .string (two h ++ ⟨#[58]⟩ ++ two m ++ ⟨#[58]⟩ ++ two s ++ ⟨#[59]⟩ ++ two f) := hvs 22 (by omega)
      simp only [List.drop_succ_cons, List.drop_zero, putAll, dstAt, List.getElem?_toArray, List.getElem?_cons_zero, List.getElem?_cons_succ, Option.bind_some, Act.put, List.setIfInBounds_toArray, List.set_cons_zero, List.set_cons_succ, kz]
      clear hvs kz
      replace B := B.trans (hE.mono B.size)
      clear hE x3
      go_wp2_with fail
      go_ret2
      exact ⟨rfl, B⟩

  · have eb1 : (r == 29) = false := by simpa using b1
    have hsp : sepB r = ⟨#[58]⟩ := if_neg b1
    have hcb : codeB r h m s f = two h ++ ⟨#[58]⟩ ++ two m ++ ⟨#[58]⟩ ++ two s ++ ⟨#[58]⟩ ++ two f := by unfold codeB; rw [hsp]
    rw [hcb]
    clear hcb hsp b1

    go_enter Tryz.func18, Tryz.ntmps18
    go_upto_region 1 with fail
    refine name_world ?_
    intro w0 hw0
    have x3 : Bx w0 W.heap.size 61 #[.int .i64 (h : Int), .int .i64 (m : Int), .int .i64 (s : Int), .int .i64 (f : Int)] := by rw [hw0]; exact Bx.new _ _ _
    have B : Below W.heap.size W w0 := by rw [hw0]; exact bnew (Below.refl _ W)
    clear hw0
    obtain ⟨q3, f3, l3⟩ := x3.all
    go_wp2_with fail
    refine (conform_checkCode r h m s f _).mono ?_
    rintro e w1 ⟨rfl, hb1⟩
    replace x3 := x3.keep hb1
    replace B := bcall B hb1
    rw [HE.out]
    clear hb1 q3 f3 l3
    obtain ⟨q3, f3, l3⟩ := x3.all
    go_upto_region 8 with fail
    clear q3 f3 l3
    refine name_world ?_
    intro wz hwz
    rw [← hwz] at x3 B
    clear hwz
    refine wp_region_rel 23 (fun q u w' => u = [.func (.func 39) #[] #[], .pointer (some ⟨W.heap.size, 0, none⟩), .int .i64 (h : Int), .string (two h), .string (two h ++ ⟨#[58]⟩), .func (.func 39) #[] #[], .pointer (some ⟨W.heap.size, 1, none⟩), .int .i64 (m : Int), .string (two m), .string (two h ++ ⟨#[58]⟩ ++ two m), .string (two h ++ ⟨#[58]⟩ ++ two m ++ ⟨#[58]⟩), .func (.func 39) #[] #[], .pointer (some ⟨W.heap.size, 2, none⟩), .int .i64 (s : Int), .string (two s), .string (two h ++ ⟨#[58]⟩ ++ two m ++ ⟨#[58]⟩ ++ two s), .string (⟨#[58]⟩), .string (two h ++ ⟨#[58]⟩ ++ two m ++ ⟨#[58]⟩ ++ two s ++ ⟨#[58]⟩), .func (.func 39) #[] #[], .pointer (some ⟨W.heap.size, 3, none⟩), .int .i64 (f : Int), .string (two f), .string (two h ++ ⟨#[58]⟩ ++ two m ++ ⟨#[58]⟩ ++ two s ++ ⟨#[58]⟩ ++ two f)].getD q undef) (fun _ => false) (fun w' => Below wz.heap.size wz w') (by kernel_rfl) (by kernel_rfl)
      (fun _ _ h e => e.trans (h.mono e.size)) (fun t u a b hb h => ?_) (Below.refl _ _).drew ?_ ?_
    · exact h
    · intro t op ht hop
      rcases (by omega : t = 0 ∨ t = 1 ∨ t = 2 ∨ t = 3 ∨ t = 4 ∨ t = 5 ∨ t = 6 ∨ t = 7 ∨ t = 8 ∨ t = 9 ∨ t = 10 ∨ t = 11 ∨ t = 12 ∨ t = 13 ∨ t = 14 ∨ t = 15 ∨ t = 16 ∨ t = 17 ∨ t = 18 ∨ t = 19 ∨ t = 20 ∨ t = 21 ∨ t = 22) with rfl | rfl | rfl | rfl | rfl | rfl | rfl | rfl | rfl | rfl | rfl | rfl | rfl | rfl | rfl | rfl | rfl | rfl | rfl | rfl | rfl | rfl | rfl
      all_goals simp only [List.getElem?_cons_zero, List.getElem?_cons_succ, Option.some.injEq] at hop
      all_goals subst hop
      all_goals intro a wx hE hag hdep
      · have e0 := slot_eq (hag 7 rfl)
        exact rel_pure _ rfl rfl (by simp [go_sem, e0])
      · have e0 := slot_eq (hag 3 rfl)
        exact rel_pure _ rfl rfl (by simp [go_sem, e0])
      · have e0 := slot_eq (hdep ⟨1, .data⟩ (by simp) rfl)
        have hq := (x3.keep hE).all.1
        exact rel_pure _ rfl rfl (by simp [go_sem, e0, hq])
      · have e0 := slot_eq (hdep ⟨0, .data⟩ (by simp) rfl)
        have e1 := slot_eq (hdep ⟨2, .data⟩ (by simp) rfl)
        refine rel_call (run_go_callv2 (args := #[.int .i64 (h : Int)]) Tryz.func39 (by kernel_rfl) (by kernel_rfl) _ _ _ _ _ _ _ _ _ _ _ e0 (by simp [Act.eval, e1])) rfl ?_
        refine (conform_two h wx (by omega)).mono ?_
        rintro e w' ⟨rfl, hbx⟩
        exact ⟨_, rfl, rfl, hbx⟩
      · have e0 := slot_eq (hdep ⟨3, .data⟩ (by simp) rfl)
        exact rel_pure _ rfl rfl (by simp [go_sem, e0, two_size, c58_size, c59_size, ByteArray.size_append])
      · have e0 := slot_eq (hag 7 rfl)
        exact rel_pure _ rfl rfl (by simp [go_sem, e0])
      · have e0 := slot_eq (hag 3 rfl)
        exact rel_pure _ rfl rfl (by simp [go_sem, e0])
      · have e0 := slot_eq (hdep ⟨6, .data⟩ (by simp) rfl)
        have hq := (x3.keep hE).all.1
        exact rel_pure _ rfl rfl (by simp [go_sem, e0, hq])
      · have e0 := slot_eq (hdep ⟨5, .data⟩ (by simp) rfl)
        have e1 := slot_eq (hdep ⟨7, .data⟩ (by simp) rfl)
        refine rel_call (run_go_callv2 (args := #[.int .i64 (m : Int)]) Tryz.func39 (by kernel_rfl) (by kernel_rfl) _ _ _ _ _ _ _ _ _ _ _ e0 (by simp [Act.eval, e1])) rfl ?_
        refine (conform_two m wx (by omega)).mono ?_
        rintro e w' ⟨rfl, hbx⟩
        exact ⟨_, rfl, rfl, hbx⟩
      · have e0 := slot_eq (hdep ⟨4, .data⟩ (by simp) rfl)
        have e1 := slot_eq (hdep ⟨8, .data⟩ (by simp) rfl)
        exact rel_pure _ rfl rfl (by simp [go_sem, e0, e1, two_size, c58_size, c59_size, ByteArray.size_append])
      · have e0 := slot_eq (hdep ⟨9, .data⟩ (by simp) rfl)
        exact rel_pure _ rfl rfl (by simp [go_sem, e0, two_size, c58_size, c59_size, ByteArray.size_append])
      · have e0 := slot_eq (hag 7 rfl)
        exact rel_pure _ rfl rfl (by simp [go_sem, e0])
      · have e0 := slot_eq (hag 3 rfl)
        exact rel_pure _ rfl rfl (by simp [go_sem, e0])
      · have e0 := slot_eq (hdep ⟨12, .data⟩ (by simp) rfl)
        have hq := (x3.keep hE).all.1
        exact rel_pure _ rfl rfl (by simp [go_sem, e0, hq])
      · have e0 := slot_eq (hdep ⟨11, .data⟩ (by simp) rfl)
        have e1 := slot_eq (hdep ⟨13, .data⟩ (by simp) rfl)
        refine rel_call (run_go_callv2 (args := #[.int .i64 (s : Int)]) Tryz.func39 (by kernel_rfl) (by kernel_rfl) _ _ _ _ _ _ _ _ _ _ _ e0 (by simp [Act.eval, e1])) rfl ?_
        refine (conform_two s wx (by omega)).mono ?_
        rintro e w' ⟨rfl, hbx⟩
        exact ⟨_, rfl, rfl, hbx⟩
      · have e0 := slot_eq (hdep ⟨10, .data⟩ (by simp) rfl)
        have e1 := slot_eq (hdep ⟨14, .data⟩ (by simp) rfl)
        exact rel_pure _ rfl rfl (by simp [go_sem, e0, e1, two_size, c58_size, c59_size, ByteArray.size_append])
      · have e0 := slot_eq (hag 8 rfl)
        exact rel_pure _ rfl rfl (by simp [go_sem, e0])
      · have e0 := slot_eq (hdep ⟨15, .data⟩ (by simp) rfl)
        have e1 := slot_eq (hdep ⟨16, .data⟩ (by simp) rfl)
        exact rel_pure _ rfl rfl (by simp [go_sem, e0, e1, two_size, c58_size, c59_size, ByteArray.size_append])
      · have e0 := slot_eq (hag 7 rfl)
        exact rel_pure _ rfl rfl (by simp [go_sem, e0])
      · have e0 := slot_eq (hag 3 rfl)
        exact rel_pure _ rfl rfl (by simp [go_sem, e0])
      · have e0 := slot_eq (hdep ⟨19, .data⟩ (by simp) rfl)
        have hq := (x3.keep hE).all.1
        exact rel_pure _ rfl rfl (by simp [go_sem, e0, hq])
      · have e0 := slot_eq (hdep ⟨18, .data⟩ (by simp) rfl)
        have e1 := slot_eq (hdep ⟨20, .data⟩ (by simp) rfl)
        refine rel_call (run_go_callv2 (args := #[.int .i64 (f : Int)]) Tryz.func39 (by kernel_rfl) (by kernel_rfl) _ _ _ _ _ _ _ _ _ _ _ e0 (by simp [Act.eval, e1])) rfl ?_
        refine (conform_two f wx (by omega)).mono ?_
        rintro e w' ⟨rfl, hbx⟩
        exact ⟨_, rfl, rfl, hbx⟩
      · have e0 := slot_eq (hdep ⟨17, .data⟩ (by simp) rfl)
        have e1 := slot_eq (hdep ⟨21, .data⟩ (by simp) rfl)
        exact rel_pure _ rfl rfl (by simp [go_sem, e0, e1, two_size, c58_size, c59_size, ByteArray.size_append])
    · intro vs wy hE hvs _
      have kz : vs 22 = .string (two h ++ ⟨#[58]⟩ ++ two m ++ ⟨#[58]⟩ ++ two s ++ ⟨#[58]⟩ ++ two f) := hvs 22 (by omega)
      simp only [List.drop_succ_cons, List.drop_zero, putAll, dstAt, List.getElem?_toArray, List.getElem?_cons_zero, List.getElem?_cons_succ, Option.bind_some, Act.put, List.setIfInBounds_toArray, List.set_cons_zero, List.set_cons_succ, kz]
      clear hvs kz
      replace B := B.trans (hE.mono B.size)
      clear hE x3
      go_wp2_with fail
      go_ret2
      exact ⟨rfl, B⟩

set_option maxRecDepth 100000 in
set_option maxHeartbeats 4000000 in
theorem conform_PrintCode_err (r h m s f : Int) (W : World) (E : Int) (hE : codeE r h m s f = E) (hn : E ≠ 0) : Calls Tryz.prog 18 #[.int .i64 r, .agg #[.int .i64 h, .int .i64 m, .int .i64 s, .int .i64 f]] W fun e w' => e = .returned (.tuple #[.string ⟨#[]⟩, .int .i64 E]) ∧ Below W.heap.size W w' := by
  have d : (E != 0) = true := by simpa using hn
  have HE := Lib.hid hE
  clear hE
  go_enter Tryz.func18, Tryz.ntmps18
  go_upto_region 1 with fail
  refine name_world ?_
  intro w0 hw0
  have x3 : Bx w0 W.heap.size 61 #[.int .i64 h, .int .i64 m, .int .i64 s, .int .i64 f] := by rw [hw0]; exact Bx.new _ _ _
  have B : Below W.heap.size W w0 := by rw [hw0]; exact bnew (Below.refl _ W)
  clear hw0
  obtain ⟨q3, f3, l3⟩ := x3.all
  go_wp2_with fail
  refine (conform_checkCode r h m s f _).mono ?_
  rintro e w1 ⟨rfl, hb1⟩
  replace x3 := x3.keep hb1
  replace B := bcall B hb1
  rw [HE.out]
  clear hb1 q3 f3 l3
  obtain ⟨q3, f3, l3⟩ := x3.all
  go_wp2_with fail
  go_ret2
  exact ⟨rfl, B⟩
end Go.Proofs.YtemlabmmafcapaaGreatDoor
