/- conform.At; cmp.Or; the closures that compare pulls. (printed by gen_ema.py) -/
import Derived.Test.YteebkfdocdmboaaDoorSqB
import Derived.Test.YteebkfdocdmboaaDoorChk
import Derived.Test.YteebkfdocdmboaaDoorDaW
import Derived.Test.YteebkfdocdmboaaDoorGrd
import Derived.Test.YteebkfdocdmboaaDoorShelf
namespace Go.Proofs.YteebkfdocdmboaaDoor
open Go.RowKit

set_option maxRecDepth 100000 in
theorem cmp_Or (g c : Nat) (a b : Int) (W : World) (hx : Bx W g 3 #[.int .i64 a, .int .i64 b]) : Calls Tryd.prog 29 #[.slice (some ⟨g, 0, none⟩) 2 c] W fun e w' => e = .returned (.int .i64 (if a = 0 then b else a)) ∧ Below W.heap.size W w' := by
  obtain ⟨q, f, l⟩ := hx.all
  by_cases ha : a = 0
  · subst ha
    rw [if_pos rfl]
    go_enter Tryd.func29, Tryd.ntmps29
    go_wp2_with fail
    go_loopw [8, 5] (fun i x wr => ∃ k : Nat, k ≤ 2 ∧ i = .int .i64 (k : Int) ∧ wr = W ∧ (k = 2 → b = 0)) (fun i _ _ => 2 - (intOf i).toNat)
    case atStart => exact ⟨0, by omega, rfl, by trivial, fun h => by cases h⟩
    case round =>
      obtain ⟨k, hk, rfl, rfl, h2⟩ := hrel
      rcases (by omega : k = 0 ∨ k = 1 ∨ k = 2) with rfl | rfl | rfl
      · go_wp2_with fail
        go_roundw
        case rel => exact ⟨1, by omega, by go_num, by trivial, fun h => by cases h⟩
        case measure => simp [intOf]
      · by_cases hb : b = 0
        · subst hb
          go_wp2_with fail
          go_roundw
          case rel => exact ⟨2, by omega, by go_num, by trivial, by intro _; first | rfl | trivial⟩
          case measure => simp [intOf]
        · have hb' : (b == 0) = false := beq_eq_false_iff_ne.2 hb
          go_wp2_with fail
          go_ret
          exact ⟨rfl, Below.refl _ _⟩
      · have hb := h2 rfl
        subst hb
        clear h2
        go_wp2_with fail
        go_ret
        exact ⟨rfl, Below.refl _ _⟩
  · rw [if_neg ha]
    have ha' : (a == 0) = false := beq_eq_false_iff_ne.2 ha
    go_enter Tryd.func29, Tryd.ntmps29
    go_wp2_with fail
    go_loopw [8, 5] (fun i x wr => i = .int .i64 0 ∧ wr = W) (fun i _ _ => 0)
    case atStart => exact ⟨rfl, by trivial⟩
    case round =>
      obtain ⟨rfl, rfl⟩ := hrel
      go_wp2_with fail
      go_ret
      exact ⟨rfl, Below.refl _ _⟩

theorem editsErr_zero {t : ByteArray} {r : Int} {es : List Ev} (h : editsErr t r es = 0) : evsTo es es.length = 0 ∧ es.length ≤ 500 := by
  unfold editsErr at h
  split at h; · cases h
  split at h; · cases h
  split at h; · cases h
  exact ⟨h, by omega⟩
theorem enters {P : Program} {f : FuncId} {fn : Func} (hf : P.funcs[f]? = some fn) (hn : (fn.name == "runtime.NumGoroutine") = false) (hb : fn.body.isNone = false) (args : Array Value) (w : World) : (callFunc f args).run P w = .ok (.enter f args) w := by
  have h1 : fn.name ≠ "runtime.NumGoroutine" := by simpa using hn
  have h2 : ¬ fn.body = none := by intro e; rw [e] at hb; cases hb
  simp [callFunc, hf, h1, h2]

set_option maxRecDepth 100000 in
set_option maxHeartbeats 2000000 in
theorem conform_cmp (r1 r2 : ByteArray) (i1 o1 i2 o2 : Int) (W : World) (h1 : -1099511627776 ≤ i1) (h2 : i1 ≤ 1099511627776) (h3 : -1099511627776 ≤ i2) (h4 : i2 ≤ 1099511627776) :
    Calls Tryd.prog 22 #[.agg #[.string r1, .int .i64 i1, .int .i64 o1], .agg #[.string r2, .int .i64 i2, .int .i64 o2]] W fun e w' => e = .returned (.int .i64 (i1 - i2)) ∧ Below W.heap.size W w' := by
  go_enter Tryd.func22, Tryd.ntmps22
  go_wp2_with fail
  go_ret
  exact ⟨rfl, bnew (bnew (Below.refl _ W))⟩
set_option maxRecDepth 100000 in
set_option maxHeartbeats 4000000 in
theorem ref_cmp (r1 r2 : ByteArray) (i1 o1 i2 o2 : Int) (W : World) :
    Calls Tryd.prog 28 #[.agg #[.string r1, .int .i64 i1, .int .i64 o1], .agg #[.string r2, .int .i64 i2, .int .i64 o2]] W fun e w' => e = .returned (.int .i64 (cR ⟨r1, i1, o1⟩ ⟨r2, i2, o2⟩)) ∧ Below W.heap.size W w' := by
  obtain ⟨cb, hcb⟩ : ∃ x, x = cbR r1 r2 := ⟨_, rfl⟩
  obtain ⟨ci, hci⟩ : ∃ x, x = Lib.compareInt i1 i2 := ⟨_, rfl⟩
  have e : cR ⟨r1, i1, o1⟩ ⟨r2, i2, o2⟩ = if cb = 0 then ci else cb := by
    unfold cR
    rw [hcb, hci]
    rfl
  obtain ⟨z, hz⟩ : ∃ z, z = if cb = 0 then ci else cb := ⟨_, rfl⟩
  rw [e, ← hz]
  have Hz := Lib.hid hz.symm
  clear hz
  have Hcb := Lib.hid (fun u => show Calls Tryd.prog 30 #[.string r1, .string r2] u fun e w' => e = .returned (.int .i64 cb) ∧ w' = u by rw [hcb]; exact Tryd.strings_Compare r1 r2 u)
  have Hci := Lib.hid (fun u => show Calls Tryd.prog 31 #[.int .i64 i1, .int .i64 i2] u fun e w' => e = .returned (.int .i64 ci) ∧ w' = u by rw [hci]; exact Tryd.cmp_Compare_int i1 i2 u)
  clear hcb hci e
  go_enter Tryd.func28, Tryd.ntmps28
  go_upto_region 1 with fail
  refine name_world ?_
  intro w0 hw0
  have x2 : Bx w0 W.heap.size 38 #[.string r1, .int .i64 i1, .int .i64 o1] := by rw [hw0]; exact (Bx.new _ _ _).alloc _
  have x3 : Bx w0 (W.heap.size + 1) 38 #[.string r2, .int .i64 i2, .int .i64 o2] := by rw [hw0]; exact Bx.at _ (by simp)
  have B : Below W.heap.size W w0 := by rw [hw0]; exact bnew (bnew (Below.refl _ W))
  clear hw0
  refine wp_region_grd 12 (fun _ => false) (fun q u w' => if q = 10 then ∃ gn, u = .slice (some ⟨gn, 0, none⟩) 2 2 ∧ Bx w' gn 3 #[.int .i64 cb, .int .i64 ci] else u = [.pointer (some ⟨W.heap.size, 0, none⟩), .string r1, .pointer (some ⟨W.heap.size + 1, 0, none⟩), .string r2, .int .i64 cb, .pointer (some ⟨W.heap.size, 1, none⟩), .int .i64 i1, .pointer (some ⟨W.heap.size + 1, 1, none⟩), .int .i64 i2, .int .i64 ci, undef, .int .i64 z].getD q undef) (fun _ => false) (fun w' => Below w0.heap.size w0 w') (by kernel_rfl) (by kernel_rfl) (fun _ _ _ _ _ h => h)
    (fun _ _ h e => e.trans (h.mono e.size)) (fun t u a' b' hb h => ?_) (Below.refl _ _).drew ?_ ?_ ?_
  · split
    · rename_i h4
      rw [if_pos h4] at h
      obtain ⟨gn, e1, e3⟩ := h
      exact ⟨gn, e1, e3.keep hb⟩
    · rename_i h4
      rw [if_neg h4] at h
      exact h
  · intro t op ht hlt hop
    clear hlt
    rcases (by omega : t = 0 ∨ t = 1 ∨ t = 2 ∨ t = 3 ∨ t = 4 ∨ t = 5 ∨ t = 6 ∨ t = 7 ∨ t = 8 ∨ t = 9 ∨ t = 10 ∨ t = 11) with rfl | rfl | rfl | rfl | rfl | rfl | rfl | rfl | rfl | rfl | rfl | rfl
    all_goals simp only [List.getElem?_cons_zero, List.getElem?_cons_succ, Option.some.injEq] at hop
    all_goals subst hop
    all_goals intro a wx hE hag hdep
    · refine grd_none rfl ?_
      have e0 := slot_eq (hag 2 rfl)
      exact rel_pure _ rfl rfl (by simp [go_sem, e0])
    · refine grd_none rfl ?_
      have e0 := slot_eq (hdep ⟨0, .data⟩ (by simp) rfl)
      have hq := (x2.keep hE).all.1
      exact rel_pure _ rfl rfl (by simp [go_sem, e0, hq])
    · refine grd_none rfl ?_
      have e0 := slot_eq (hag 3 rfl)
      exact rel_pure _ rfl rfl (by simp [go_sem, e0])
    · refine grd_none rfl ?_
      have e0 := slot_eq (hdep ⟨2, .data⟩ (by simp) rfl)
      have hq := (x3.keep hE).all.1
      exact rel_pure _ rfl rfl (by simp [go_sem, e0, hq])
    · refine grd_none rfl ?_
      have e0 := slot_eq (hdep ⟨1, .data⟩ (by simp) rfl)
      have e1 := slot_eq (hdep ⟨3, .data⟩ (by simp) rfl)
      refine rel_call (f := 30) (args := #[.string r1, .string r2]) (run_go_call Tryd.func30 (by kernel_rfl) (by kernel_rfl) _ _ _ _ _ _ _ _ _ _ (by simp [Act.eval, e0, e1])) rfl ?_
      refine (Hcb.out wx).mono ?_
      rintro e w' ⟨rfl, rfl⟩
      exact ⟨_, rfl, rfl, Below.refl _ _⟩
    · refine grd_none rfl ?_
      have e0 := slot_eq (hag 2 rfl)
      exact rel_pure _ rfl rfl (by simp [go_sem, e0])
    · refine grd_none rfl ?_
      have e0 := slot_eq (hdep ⟨5, .data⟩ (by simp) rfl)
      have hq := (x2.keep hE).all.1
      exact rel_pure _ rfl rfl (by simp [go_sem, e0, hq])
    · refine grd_none rfl ?_
      have e0 := slot_eq (hag 3 rfl)
      exact rel_pure _ rfl rfl (by simp [go_sem, e0])
    · refine grd_none rfl ?_
      have e0 := slot_eq (hdep ⟨7, .data⟩ (by simp) rfl)
      have hq := (x3.keep hE).all.1
      exact rel_pure _ rfl rfl (by simp [go_sem, e0, hq])
    · refine grd_none rfl ?_
      have e0 := slot_eq (hdep ⟨6, .data⟩ (by simp) rfl)
      have e1 := slot_eq (hdep ⟨8, .data⟩ (by simp) rfl)
      refine rel_call (f := 31) (args := #[.int .i64 i1, .int .i64 i2]) (run_go_call Tryd.func31 (by kernel_rfl) (by kernel_rfl) _ _ _ _ _ _ _ _ _ _ (by simp [Act.eval, e0, e1])) rfl ?_
      refine (Hci.out wx).mono ?_
      rintro e w' ⟨rfl, rfl⟩
      exact ⟨_, rfl, rfl, Below.refl _ _⟩
    · refine grd_none rfl ?_
      have e0 := slot_eq (hdep ⟨4, .data⟩ (by simp) rfl)
      have e1 := slot_eq (hdep ⟨9, .data⟩ (by simp) rfl)
      exact rel_val (v := .slice (some ⟨wx.heap.size, 0, none⟩) 2 2) (w' := wx.alloc (.cells #[.int .i64 cb, .int .i64 ci] 3)) (by simp [go_sem, e0, e1]) ⟨wx.heap.size, rfl, Bx.new _ _ _⟩ ((Below.refl _ _).alloc (Nat.le_refl _) _) (fun h => by cases h)
    · refine grd_none rfl ?_
      obtain ⟨gn, e1, xn⟩ := hdep ⟨10, .data⟩ (by simp) rfl
      have e1 := slot_eq e1
      refine rel_call (f := 29) (args := #[.slice (some ⟨gn, 0, none⟩) 2 2]) (run_go_call Tryd.func29 (by kernel_rfl) (by kernel_rfl) _ _ _ _ _ _ _ _ _ _ (by simp [Act.eval, e1])) rfl ?_
      refine (cmp_Or gn 2 cb ci wx xn).mono ?_
      rintro e w' ⟨rfl, hbx⟩
      exact ⟨_, rfl, by rw [Hz.out]; rfl, hbx⟩
  · intro t op ht hlt; cases hlt
  intro vs wy hE hvs _
  have k11 : vs 11 = .int .i64 z := hvs 11 (by omega)
  simp only [List.drop_succ_cons, List.drop_zero, putAll, dstAt, List.getElem?_toArray, List.getElem?_cons_zero, List.getElem?_cons_succ, Option.bind_some, Act.put, List.setIfInBounds_toArray, List.set_cons_zero, List.set_cons_succ, k11]
  clear hvs k11
  replace B := bcall B hE
  clear hE x2 x3
  go_wp2_with fail
  go_ret
  exact ⟨rfl, B⟩
theorem cmpQP : CmpQ 22 cP Vp :=
  ⟨fun args u => enters Tryd.func22 (by kernel_rfl) (by kernel_rfl) _ _, fun x y u hx hy => conform_cmp x.reel y.reel x.inn x.out y.inn y.out u hx.1 hx.2 hy.1 hy.2⟩
theorem cmpQR : CmpQ 28 cR Vp :=
  ⟨fun args u => enters Tryd.func28 (by kernel_rfl) (by kernel_rfl) _ _, fun x y u hx hy => ref_cmp x.reel y.reel x.inn x.out y.inn y.out u⟩

/-- What conform.At gives. -/
def atP (er : Int) (es : List Ev) (f : Int) : Value := if er ≠ 0 then .tuple #[.agg #[.int .i64 0, .string ⟨#[]⟩, .int .i64 0, .string ⟨#[]⟩, .int .i64 0, .float .f32 0], .int .i64 er] else if f < 0 then .tuple #[.agg #[.int .i64 0, .string ⟨#[]⟩, .int .i64 0, .string ⟨#[]⟩, .int .i64 0, .float .f32 0], .int .i64 3] else atR es f
theorem atR_lit (es : List Ev) (f : Int) : ∃ (a b d er : Int) (r s : ByteArray) (h : Nat), atR es f = .tuple #[.agg #[.int .i64 a, .string r, .int .i64 b, .string s, .int .i64 d, .float .f32 h], .int .i64 er] := by
  unfold atR
  split
  · exact ⟨_, _, _, _, _, _, _, rfl⟩
  · exact ⟨_, _, _, _, _, _, _, rfl⟩
set_option maxRecDepth 100000 in
set_option maxHeartbeats 4000000 in
theorem conform_At (title : ByteArray) (rate : Int) (v : Value) (es : List Ev) (f : Int) (W : World) (hs : SlE W v es) :
    Calls Tryd.prog 6 #[.agg #[.string title, .int .i64 rate, v], .int .i64 f] W fun e w' => e = .returned (atP (editsErr title rate es) es f) ∧ Below W.heap.size W w' := by
  have Hck := Lib.hid (fun (u : World) (hu : Below W.heap.size W u) => conform_CheckList title rate v es u (hs.keep hu))
  have hok : editsErr title rate es = 0 → evsTo es es.length = 0 := fun h => (editsErr_zero h).1
  obtain ⟨er, her⟩ : ∃ er, er = editsErr title rate es := ⟨_, rfl⟩
  rw [← her] at Hck hok ⊢
  have Hat := Lib.hid (fun (h : er = 0) (u : World) (hu : Below W.heap.size W u) => conform_at title rate v es f u (hs.keep hu) (hok h))
  obtain ⟨a, c, rfl, _, _⟩ := hs
  generalize es.length = n at *
  clear hok her
  go_enter Tryd.func6, Tryd.ntmps6
  go_upto_region 1 with fail
  refine name_world ?_
  intro w0 hw0
  have x2 : Bx w0 W.heap.size 24 #[.string title, .int .i64 rate, .slice a n c] := by rw [hw0]; exact (Bx.new _ _ _).alloc _
  have x4 : Bx w0 (W.heap.size + 1) 30 #[.int .i64 0, .string ⟨#[]⟩, .int .i64 0, .string ⟨#[]⟩, .int .i64 0, .float .f32 0] := by rw [hw0]; exact Bx.at _ (by simp)
  have B : Below W.heap.size W w0 := by rw [hw0]; exact bnew (bnew (Below.refl _ W))
  clear hw0
  obtain ⟨q2, f2, l2⟩ := x2.all
  go_wp2_with fail
  refine (Hck.out w0 B).mono ?_
  rintro e w1 ⟨rfl, hb1⟩
  replace x2 := x2.keep hb1
  replace x4 := x4.keep hb1
  replace B := bcall B hb1
  clear hb1 q2 f2 l2
  by_cases h0 : er = 0
  · have hat := Hat.out h0
    subst h0
    by_cases hf : f < 0
    · have ha : atP 0 es f = .tuple #[.agg #[.int .i64 0, .string ⟨#[]⟩, .int .i64 0, .string ⟨#[]⟩, .int .i64 0, .float .f32 0], .int .i64 3] := by unfold atP; rw [if_neg (by simp), if_pos hf]
      have HA := Lib.hid ha
      clear ha hat
      obtain ⟨q4, f4, l4⟩ := x4.all
      clear x2 x4
      go_wp2_with fail
      refine bodyPost_ret (v := .tuple #[.agg #[.int .i64 0, .string ⟨#[]⟩, .int .i64 0, .string ⟨#[]⟩, .int .i64 0, .float .f32 0], .int .i64 3]) (by simp [results, Tryd.results6, go_sem, q4]) rfl ⟨by rw [HA.out], ?_⟩
      repeat (refine bput (by omega) ?_)
      exact B
    · have ha : atP 0 es f = atR es f := by unfold atP; rw [if_neg (by simp), if_neg hf]
      obtain ⟨z1, z2, z3, z4, z5, z6, z7, hz⟩ := atR_lit es f
      rw [hz] at hat ha
      have HA := Lib.hid ha
      clear ha hz
      obtain ⟨q2, f2, l2⟩ := x2.all
      go_wp2_with fail
      refine (hat w1 B).mono ?_
      rintro e w2 ⟨rfl, hb2⟩
      replace x4 := x4.keep hb2
      replace B := bcall B hb2
      clear hb2 q2 f2 l2 x2 hat
      obtain ⟨q4, f4, l4⟩ := x4.all
      clear x4
      go_wp2_with fail
      refine bodyPost_ret (v := .tuple #[.agg #[.int .i64 z1, .string z5, .int .i64 z2, .string z6, .int .i64 z3, .float .f32 z7], .int .i64 z4]) (by simp [results, Tryd.results6, go_sem, q4]) rfl ⟨by rw [HA.out], ?_⟩
      repeat (refine bput (by omega) ?_)
      exact B
  · have ha : atP er es f = .tuple #[.agg #[.int .i64 0, .string ⟨#[]⟩, .int .i64 0, .string ⟨#[]⟩, .int .i64 0, .float .f32 0], .int .i64 er] := by unfold atP; rw [if_pos h0]
    have HA := Lib.hid ha
    have hne : (er != 0) = true := bne_iff_ne.2 h0
    clear ha Hat h0
    obtain ⟨q4, f4, l4⟩ := x4.all
    clear x2 x4
    go_wp2_with fail
    refine bodyPost_ret (v := .tuple #[.agg #[.int .i64 0, .string ⟨#[]⟩, .int .i64 0, .string ⟨#[]⟩, .int .i64 0, .float .f32 0], .int .i64 er]) (by simp [results, Tryd.results6, go_sem, q4]) rfl ⟨by rw [HA.out], ?_⟩
    repeat (refine bput (by omega) ?_)
    exact B
end Go.Proofs.YteebkfdocdmboaaDoor
