/- Sums by halves: num.Sum with its closure, and the reference's. -/
import Derived.Test.YtlfcedecobebmaaRel
import Derived.Laws.EntriesVeiled
namespace Go.Proofs.Ytlfcedecobebmaa
open Go.RowKit

/-- The sum by halves, behind Clean. -/
def sumC : Nat → List Nat → Nat
  | 0, _ => 0
  | f + 1, xs => if xs.length = 0 then 0 else if xs.length = 1 then canon (xs.getD 0 0) else fop .add (sumC f (xs.take (xs.length / 2))) (sumC f (xs.drop (xs.length / 2)))

/-- A call through a function value in a slot. -/
theorem run_go_callv {P : Program} {f : FuncId} {fn : Func} (hf : P.funcs[f]? = some fn) (hn : (fn.name == "runtime.NumGoroutine") = false) (hb : fn.body.isNone = false)
    (a : Act) (dst : Option Tmp) (t : Tmp) (cap : Array Value) (xs : Array Operand) (ats : Array TypeId) (ty : TypeId) (pos : String) (after : Array Edge) (guard : Option (Nat × Bool)) (w : World) (args : Array Value)
    (ht : a.tmps[t]?.getD undef = .func (.func f) #[] cap) (hx : xs.map a.eval ++ cap = args) :
    (execOp a.eval { dst, op := .call { callee := .value (.tmp t), args := xs, argTypes := ats }, type := ty, pos, after, guard }).run P w = .ok (.enter f args) w := by
  have h1 : fn.name ≠ "runtime.NumGoroutine" := by simpa using hn
  have h2 : ¬ fn.body = none := by intro e; rw [e] at hb; cases hb
  subst hx
  have ht' : a.eval (.tmp t) = .func (.func f) #[] cap := by simpa [Act.eval] using ht
  simp only [execOp, resolve, ht', Deferred.ofValue]
  simp [invoke, callFunc, hf, h1, h2]

/-- A single that is s behind Clean. -/
def FV (s : Nat) (v : Value) : Prop := ∃ b, v = .float .f32 b ∧ canon b = s

theorem sumC_two (f : Nat) (xs : List Nat) (h : 2 ≤ xs.length) : sumC (f + 1) xs = fop .add (sumC f (xs.take (xs.length / 2))) (sumC f (xs.drop (xs.length / 2))) := by
  rw [sumC, if_neg (by omega), if_neg (by omega)]
theorem sumC_one (f : Nat) (xs : List Nat) (h : xs.length = 1) : sumC (f + 1) xs = canon (xs.getD 0 0) := by
  rw [sumC, if_neg (by omega), if_pos h]

theorem rd_take {w : World} {b o : Nat} {xs : List Nat} (h : Rd w b o xs) (k : Nat) : Rd w b o (xs.take k) :=
  ⟨h.1, fun i hi => by
    rw [List.length_take] at hi
    rw [h.2 i (by omega)]
    simp [show i < k by omega]⟩
theorem rd_drop {w : World} {b o : Nat} {xs : List Nat} (h : Rd w b o xs) (k : Nat) : Rd w b (o + k) (xs.drop k) :=
  ⟨h.1, fun i hi => by
    rw [List.length_drop] at hi
    rw [Nat.add_assoc, h.2 (k + i) (by omega)]
    simp⟩

set_option maxRecDepth 100000 in
set_option maxHeartbeats 1000000 in
theorem num_sum1 (cb : Nat) (f : Nat) : ∀ (xs : List Nat) (b o n c : Nat) (W : World), xs.length = n → 1 ≤ n → n ≤ f → n ≤ c → n ≤ 1000000 → Rd W b o xs →
    W.cell? ⟨cb, 0, none⟩ = some (.func (.func 54) #[] #[.pointer (some ⟨cb, 0, none⟩)]) →
    Calls Try.prog 54 #[.slice (some ⟨b, o, none⟩) n c, .pointer (some ⟨cb, 0, none⟩)] W fun e w' => (∃ v, e = .returned v ∧ FV (sumC f xs) v) ∧ Below W.heap.size W w' := by
  induction f with
  | zero => intro xs b o n c W _ h1 h2; omega
  | succ f ih =>
    intro xs b o n c W hxs hn1 hnf hnc hn6 hrd hcb
    have hcl := World.block_lt_of_cell? W _ hcb
    simp only at hcl
    by_cases h1 : n = 1
    · subst h1
      have hc : W.cell? ⟨b, o, none⟩ = _ := hrd.cell 0 (by omega)
      have Hs := Lib.hid (sumC_one f xs hxs)
      have Hx := Lib.hid hxs
      clear hxs
      go_enter Try.func54, Try.ntmps54
      go_wp2_with fail
      go_ret
      exact ⟨⟨_, rfl, _, rfl, by rw [Hs.out]; simp⟩, Below.refl _ _⟩
    · have e0 : ((n : Int) == 0) = false := by simp; omega
      have e1 : ((n : Int) == 1) = false := by simp; omega
      have Hs := Lib.hid (sumC_two f xs (by omega))
      obtain ⟨k, hk⟩ : ∃ k, k = n / 2 := ⟨_, rfl⟩
      have hki : (n : Int) / 2 = (k : Int) := by omega
      have hk1 : 1 ≤ k := by omega
      have hk2 : k < n := by omega
      have Hx := Lib.hid hxs
      have Hk := Lib.hid hk
      clear hxs hk
      go_enter Try.func54, Try.ntmps54
      go_wp2_with fail
      refine wp_region_rel 11 (fun i v _ => if i = 4 then FV (sumC f (xs.take k)) v else if i = 9 then FV (sumC f (xs.drop k)) v else if i = 10 then FV (fop .add (sumC f (xs.take k)) (sumC f (xs.drop k))) v else
          v = [.func (.func 54) #[] #[.pointer (some ⟨cb, 0, none⟩)], .slice (some ⟨b, o, none⟩) n c, .int .i64 k, .slice (some ⟨b, o, none⟩) k c, undef, .func (.func 54) #[] #[.pointer (some ⟨cb, 0, none⟩)],
            .slice (some ⟨b, o, none⟩) n c, .int .i64 k, .slice (some ⟨b, o + k, none⟩) (n - k) (c - k)].getD i undef) (fun _ => false) (fun w => Below W.heap.size W w) (by kernel_rfl) (by kernel_rfl)
          (fun _ _ h e => e.trans (h.mono e.size)) (fun _ _ _ _ _ h => h) (Below.refl _ _).drew ?_ ?_
      · intro t op ht hop
        rcases (by omega : t = 0 ∨ t = 1 ∨ t = 2 ∨ t = 3 ∨ t = 4 ∨ t = 5 ∨ t = 6 ∨ t = 7 ∨ t = 8 ∨ t = 9 ∨ t = 10) with rfl | rfl | rfl | rfl | rfl | rfl | rfl | rfl | rfl | rfl | rfl
        all_goals simp only [List.getElem?_cons_zero, List.getElem?_cons_succ, Option.some.injEq] at hop
        all_goals subst hop
        all_goals intro a wx hE hag hdep
        · have e := slot_eq (hag 1 rfl)
          have hq : wx.cell? ⟨cb, 0, none⟩ = _ := (hE.cell (p := ⟨cb, 0, none⟩) hcl).trans hcb
          exact rel_pure _ rfl rfl (by simp [go_sem, e, hq])
        · have e := slot_eq (hag 0 rfl)
          exact rel_pure _ rfl rfl (by simp [go_sem, e])
        · have e := slot_eq (hag 4 rfl)
          exact rel_pure _ rfl rfl (by simp [go_sem, e])
        · have e1 := slot_eq (hdep ⟨1, .data⟩ (by simp) rfl)
          have e2 := slot_eq (hdep ⟨2, .data⟩ (by simp) rfl)
          refine rel_pure _ rfl rfl ?_
          simp [go_sem, e1, e2]
          intro h; omega
        · have e1 := slot_eq (hdep ⟨0, .data⟩ (by simp) rfl)
          have e2 := slot_eq (hdep ⟨3, .data⟩ (by simp) rfl)
          have hq : wx.cell? ⟨cb, 0, none⟩ = _ := (hE.cell (p := ⟨cb, 0, none⟩) hcl).trans hcb
          refine rel_call (run_go_callv (args := #[.slice (some ⟨b, o, none⟩) k c, .pointer (some ⟨cb, 0, none⟩)]) Try.func54 (by kernel_rfl) (by kernel_rfl) _ _ _ _ _ _ _ _ _ _ _ e1 (by simp [Act.eval, e2])) rfl ?_
          refine (ih (xs.take k) b o k c wx (by rw [List.length_take, Hx.out]; omega) hk1 (by omega) (by omega) (by omega) (rd_take (hrd.keep hE) k) hq).mono ?_
          rintro e w' ⟨⟨v, rfl, hv⟩, hb⟩
          exact ⟨v, rfl, hv, hb⟩
        · have e := slot_eq (hag 1 rfl)
          have hq : wx.cell? ⟨cb, 0, none⟩ = _ := (hE.cell (p := ⟨cb, 0, none⟩) hcl).trans hcb
          exact rel_pure _ rfl rfl (by simp [go_sem, e, hq])
        · have e := slot_eq (hag 0 rfl)
          exact rel_pure _ rfl rfl (by simp [go_sem, e])
        · have e := slot_eq (hag 4 rfl)
          exact rel_pure _ rfl rfl (by simp [go_sem, e])
        · have e1 := slot_eq (hdep ⟨6, .data⟩ (by simp) rfl)
          have e2 := slot_eq (hdep ⟨7, .data⟩ (by simp) rfl)
          refine rel_pure _ rfl rfl ?_
          have hck : ¬ c = k := by omega
          have hkn : k ≤ n := by omega
          simp [go_sem, e1, e2, hck, hkn]
        · have e1 := slot_eq (hdep ⟨5, .data⟩ (by simp) rfl)
          have e2 := slot_eq (hdep ⟨8, .data⟩ (by simp) rfl)
          have hq : wx.cell? ⟨cb, 0, none⟩ = _ := (hE.cell (p := ⟨cb, 0, none⟩) hcl).trans hcb
          refine rel_call (run_go_callv (args := #[.slice (some ⟨b, o + k, none⟩) (n - k) (c - k), .pointer (some ⟨cb, 0, none⟩)]) Try.func54 (by kernel_rfl) (by kernel_rfl) _ _ _ _ _ _ _ _ _ _ _ e1 (by simp [Act.eval, e2])) rfl ?_
          refine (ih (xs.drop k) b (o + k) (n - k) (c - k) wx (by rw [List.length_drop, Hx.out]) (by omega) (by omega) (by omega) (by omega) (rd_drop (hrd.keep hE) k) hq).mono ?_
          rintro e w' ⟨⟨v, rfl, hv⟩, hb⟩
          exact ⟨v, rfl, hv, hb⟩
        · obtain ⟨x1, k1, j1⟩ : FV (sumC f (xs.take k)) _ := hdep ⟨4, .data⟩ (by simp) rfl
          obtain ⟨x2, k2, j2⟩ : FV (sumC f (xs.drop k)) _ := hdep ⟨9, .data⟩ (by simp) rfl
          have k1' := slot_eq k1
          have k2' := slot_eq k2
          refine rel_val (v := .float .f32 (fres .add .f32 x1 x2 wx)) (w' := wx.drewN (fdr .add .f32 x1 x2)) (by simp [go_sem, k1', k2']) ?_ (below_drewN (Below.refl _ _) _) (fun h => by cases h)
          exact ⟨_, rfl, by rw [canon_fres, ← fop_canon_left, ← fop_canon_right, j1, j2]⟩
      · intro vs wx hE hvs _
        obtain ⟨x, hx, hxc⟩ : FV (fop .add (sumC f (xs.take k)) (sumC f (xs.drop k))) (vs 10) := hvs 10 (by omega)
        simp only [List.drop_succ_cons, List.drop_zero, putAll, dstAt, List.getElem?_toArray, List.getElem?_cons_zero, List.getElem?_cons_succ, Option.bind_some, Act.put, List.setIfInBounds_toArray, List.set_cons_zero, List.set_cons_succ, hx]
        clear hvs
        go_wp2_with fail
        go_ret
        exact ⟨⟨_, rfl, x, rfl, by rw [hxc, Hs.out, Hx.out, ← Hk.out]⟩, hE⟩

theorem canon_sumC (f : Nat) (xs : List Nat) : canon (sumC f xs) = sumC f xs := by
  cases f with
  | zero => show canon 0 = 0; decide
  | succ f =>
    unfold sumC
    split
    · decide
    · split
      · exact canon_idem _
      · exact canon_fop _ _ _

set_option maxRecDepth 100000 in
set_option maxHeartbeats 1000000 in
theorem num_Sum (xs : List Nat) (b o n c : Nat) (W : World) (hxs : xs.length = n) (h1 : 1 ≤ n) (h2 : n ≤ c) (h3 : n ≤ 1000000) (hrd : Rd W b o xs) :
    Calls Try.prog 39 #[.slice (some ⟨b, o, none⟩) n c] W fun e w' => e = .returned (.float .f32 (sumC n xs)) ∧ Below W.heap.size W w' := by
  have hb := hrd.lt
  go_enter Try.func39, Try.ntmps39
  go_wp2_with fail
  refine (num_sum1 W.heap.size n xs b o n c _ hxs h1 (Nat.le_refl _) h2 h3 (hrd.alloc _) ?_).mono ?_
  · simp [go_sem]
  rintro e w1 ⟨⟨v, rfl, x, rfl, hx⟩, hb1⟩
  go_wp2_with (go_at_call 24; refine (num_Clean _ _).mono ?_; rintro e w' ⟨rfl, rfl⟩)
  go_ret
  exact ⟨rfl, bcall (bnew (Below.refl _ W)) hb1⟩

set_option maxRecDepth 100000 in
set_option maxHeartbeats 1000000 in
theorem ref_SumOf (f : Nat) : ∀ (xs : List Nat) (b o n c : Nat) (W : World), xs.length = n → 1 ≤ n → n ≤ f → n ≤ c → n ≤ 1000000 → Rd W b o xs →
    Calls Try.prog 52 #[.slice (some ⟨b, o, none⟩) n c] W fun e w' => e = .returned (.float .f32 (sumC f xs)) ∧ Below W.heap.size W w' := by
  induction f with
  | zero => intro xs b o n c W _ h1 h2; omega
  | succ f ih =>
    intro xs b o n c W hxs hn1 hnf hnc hn6 hrd
    by_cases h1 : n = 1
    · subst h1
      have hc : W.cell? ⟨b, o, none⟩ = _ := hrd.cell 0 (by omega)
      have Hs := Lib.hid (sumC_one f xs hxs)
      have Hx := Lib.hid hxs
      clear hxs
      go_enter Try.func52, Try.ntmps52
      go_wp2_with (go_at_call 46; refine (ref_Fix _ _).mono ?_; rintro e w' ⟨rfl, rfl⟩)
      go_ret
      exact ⟨ret_f32 (by rw [Hs.out]; simp), Below.refl _ _⟩
    · have e0 : ((n : Int) == 0) = false := by simp; omega
      have e1 : ((n : Int) == 1) = false := by simp; omega
      have Hs := Lib.hid (sumC_two f xs (by omega))
      obtain ⟨k, hk⟩ : ∃ k, k = n / 2 := ⟨_, rfl⟩
      have hki : (n : Int) / 2 = (k : Int) := by omega
      have hk1 : 1 ≤ k := by omega
      have hk2 : k < n := by omega
      have Hx := Lib.hid hxs
      have Hk := Lib.hid hk
      clear hxs hk
      go_enter Try.func52, Try.ntmps52
      go_wp2_with fail
      refine wp_region_rel 10 (fun i v _ => if i = 8 then FV (fop .add (sumC f (xs.take k)) (sumC f (xs.drop k))) v else
          v = [.slice (some ⟨b, o, none⟩) n c, .int .i64 k, .slice (some ⟨b, o, none⟩) k c, .float .f32 (sumC f (xs.take k)),
            .slice (some ⟨b, o, none⟩) n c, .int .i64 k, .slice (some ⟨b, o + k, none⟩) (n - k) (c - k), .float .f32 (sumC f (xs.drop k)), undef, .float .f32 (fop .add (sumC f (xs.take k)) (sumC f (xs.drop k)))].getD i undef) (fun _ => false) (fun w => Below W.heap.size W w) (by kernel_rfl) (by kernel_rfl)
          (fun _ _ h e => e.trans (h.mono e.size)) (fun _ _ _ _ _ h => h) (Below.refl _ _).drew ?_ ?_
      · intro t op ht hop
        rcases (by omega : t = 0 ∨ t = 1 ∨ t = 2 ∨ t = 3 ∨ t = 4 ∨ t = 5 ∨ t = 6 ∨ t = 7 ∨ t = 8 ∨ t = 9) with rfl | rfl | rfl | rfl | rfl | rfl | rfl | rfl | rfl | rfl
        all_goals simp only [List.getElem?_cons_zero, List.getElem?_cons_succ, Option.some.injEq] at hop
        all_goals subst hop
        all_goals intro a wx hE hag hdep
        · have e := slot_eq (hag 0 rfl)
          exact rel_pure _ rfl rfl (by simp [go_sem, e])
        · have e := slot_eq (hag 3 rfl)
          exact rel_pure _ rfl rfl (by simp [go_sem, e])
        · have e1 := slot_eq (hdep ⟨0, .data⟩ (by simp) rfl)
          have e2 := slot_eq (hdep ⟨1, .data⟩ (by simp) rfl)
          refine rel_pure _ rfl rfl ?_
          simp [go_sem, e1, e2]
          intro h; omega
        · have e2 := slot_eq (hdep ⟨2, .data⟩ (by simp) rfl)
          refine rel_call (f := 52) (args := #[.slice (some ⟨b, o, none⟩) k c]) (run_go_call Try.func52 (by kernel_rfl) (by kernel_rfl) _ _ _ _ _ _ _ _ _ _ (by simp [Act.eval, e2])) rfl ?_
          refine (ih (xs.take k) b o k c wx (by rw [List.length_take, Hx.out]; omega) hk1 (by omega) (by omega) (by omega) (rd_take (hrd.keep hE) k)).mono ?_
          rintro e w' ⟨rfl, hb⟩
          exact ⟨_, rfl, rfl, hb⟩
        · have e := slot_eq (hag 0 rfl)
          exact rel_pure _ rfl rfl (by simp [go_sem, e])
        · have e := slot_eq (hag 3 rfl)
          exact rel_pure _ rfl rfl (by simp [go_sem, e])
        · have e1 := slot_eq (hdep ⟨4, .data⟩ (by simp) rfl)
          have e2 := slot_eq (hdep ⟨5, .data⟩ (by simp) rfl)
          refine rel_pure _ rfl rfl ?_
          have hck : ¬ c = k := by omega
          have hkn : k ≤ n := by omega
          simp [go_sem, e1, e2, hck, hkn]
        · have e2 := slot_eq (hdep ⟨6, .data⟩ (by simp) rfl)
          refine rel_call (f := 52) (args := #[.slice (some ⟨b, o + k, none⟩) (n - k) (c - k)]) (run_go_call Try.func52 (by kernel_rfl) (by kernel_rfl) _ _ _ _ _ _ _ _ _ _ (by simp [Act.eval, e2])) rfl ?_
          refine (ih (xs.drop k) b (o + k) (n - k) (c - k) wx (by rw [List.length_drop, Hx.out]) (by omega) (by omega) (by omega) (by omega) (rd_drop (hrd.keep hE) k)).mono ?_
          rintro e w' ⟨rfl, hb⟩
          exact ⟨_, rfl, rfl, hb⟩
        · have k1 := slot_eq (hdep ⟨3, .data⟩ (by simp) rfl)
          have k2 := slot_eq (hdep ⟨7, .data⟩ (by simp) rfl)
          refine rel_val (v := .float .f32 (fres .add .f32 (sumC f (xs.take k)) (sumC f (xs.drop k)) wx)) (w' := wx.drewN (fdr .add .f32 (sumC f (xs.take k)) (sumC f (xs.drop k)))) (by simp [go_sem, k1, k2]) ?_ (below_drewN (Below.refl _ _) _) (fun h => by cases h)
          exact ⟨_, rfl, canon_fres _ _ _ _⟩
        · obtain ⟨x1, k1, j1⟩ : FV (fop .add (sumC f (xs.take k)) (sumC f (xs.drop k))) _ := hdep ⟨8, .data⟩ (by simp) rfl
          have k1' := slot_eq k1
          refine rel_call (f := 46) (args := #[.float .f32 x1]) (run_go_call Try.func46 (by kernel_rfl) (by kernel_rfl) _ _ _ _ _ _ _ _ _ _ (by simp [Act.eval, k1'])) rfl ?_
          refine (ref_Fix x1 wx).mono ?_
          rintro e w' ⟨rfl, rfl⟩
          exact ⟨_, rfl, by rw [j1]; rfl, Below.refl _ _⟩
      · intro vs wx hE hvs _
        have hx : vs 9 = .float .f32 (fop .add (sumC f (xs.take k)) (sumC f (xs.drop k))) := hvs 9 (by omega)
        simp only [List.drop_succ_cons, List.drop_zero, putAll, dstAt, List.getElem?_toArray, List.getElem?_cons_zero, List.getElem?_cons_succ, Option.bind_some, Act.put, List.setIfInBounds_toArray, List.set_cons_zero, List.set_cons_succ, hx]
        clear hvs
        go_wp2_with fail
        go_ret
        exact ⟨ret_f32 (by rw [Hs.out, Hx.out, ← Hk.out]), hE⟩
end Go.Proofs.Ytlfcedecobebmaa
