/- slices.Clone, IndexFunc, DeleteFunc, MinFunc and MaxFunc at singles. -/
import Derived.Test.YtlfcedecobebmaaExA
import Derived.Test.YtlfcedecobebmaaPln
import Derived.Lib.SliceRun
namespace Go.Proofs.Ytlfcedecobebmaa
open Go.RowKit

set_option maxRecDepth 100000 in
set_option maxHeartbeats 2000000 in
theorem sl_Clone (b o c n : Nat) (xs : List Nat) (W : World) (hx : xs.length = n) (h1 : 1 ≤ n) (hn : n ≤ 1000000) (hrd : Rd W b o xs) :
    Calls Try.prog 17 #[.slice (some ⟨b, o, none⟩) n c] W fun e w' => ∃ g cp, e = .returned (.slice (some ⟨g, 0, none⟩) n cp) ∧ n ≤ cp ∧ W.heap.size ≤ g ∧ RowP w' g n xs ∧ Below W.heap.size W w' := by
  obtain ⟨i0, hi, hz0, hz1, hz2⟩ := info_parts infoF
  have q22 : ∀ (w : World) (a : Option Addr) (n c n' c' : Nat), (binOp .eql 24 (.slice a n c) (.slice none n' c')).run Try.prog w = .ok (.bool a.isNone) w := fun w a n c n' c' => Lib.run_eql_slice_nil w _ _ a n c n' c' Try.underlying24
  have A := Lib.hid hrd
  have Hn := Lib.hid hx
  clear hrd hx
  go_enter Try.func17, Try.ntmps17
  go_wp2_with (at_builtin; refine wpList_append_own _ rfl _ _ 24 rfl W.heap.size 29 i0 (.float .f32 0) 1 4 Try.underlying24 hi hz0 hz1 hz2 rfl (by decide) _ _ _ rfl (World.ownsRow_made W #[] 0 (Nat.le_refl _) (Nat.zero_le _) rfl) ⟨b, o, none⟩ n c (xs.map (Value.float .f32)) rfl ?qc1 ?qc2 ?qc3 ?qc4 ?qc5 ?qc6 ?_)
  case qc1 => rw [List.length_map, Hn.out, Nat.mul_one]
  case qc2 =>
    intro j u hj
    have hlt := (List.getElem?_eq_some_iff.1 hj).1
    rw [List.length_map] at hlt
    rw [Addr.add_lit]
    refine Lib.cell?_alloc_some _ ?_
    rw [A.out.cell j hlt, ← hj]
    simp [hlt]
  case qc3 =>
    intro u hu
    obtain ⟨x, _, rfl⟩ := List.mem_map.1 hu
    rfl
  case qc4 => unfold maxLen; omega
  case qc5 => omega
  case qc6 => simp
  intro v' w1 hown hgrow hnil
  rcases hown.2 with ⟨_, h0⟩ | ⟨g, cap, cur, rfl, hb, hg, hnc, hcm, hcs, htake⟩
  · omega
  go_wp2
  go_ret
  have e2 : cur.toList.take n = xs.map (Value.float .f32) := by have e := htake; rw [Nat.mul_one] at e; exact e
  refine ⟨g, cap, rfl, hnc, hb, ⟨Hn.out, cur, cur.toList.drop n, hg, by rw [← e2]; exact (List.take_append_drop n cur.toList).symm⟩, ?_⟩
  exact ((Below.refl _ W).alloc (Nat.le_refl _) _).grown hgrow (by simp) (by intro k hk; simp [Value.ownBlock] at hk; omega)

/-- A function that asks something of a single. -/
structure Pred (F : FuncId) (p : Nat → Bool) : Prop where
  enter : ∀ (args : Array Value) (u : World), (callFunc F args).run Try.prog u = .ok (.enter F args) u
  gives : ∀ (x : Nat) (u : World), Calls Try.prog F (#[.float .f32 x] ++ #[]) u fun e u' => e = .returned (.bool (p x)) ∧ u = u'
theorem Pred.at {F : FuncId} {p : Nat → Bool} (h : Pred F p) {x : Nat} {r : Bool} (hr : p x = r) (u : World) : Calls Try.prog F (#[.float .f32 x] ++ #[]) u fun e u' => e = .returned (.bool r) ∧ u = u' := by
  subst hr; exact h.gives x u

set_option maxRecDepth 100000 in
theorem predP : Pred 18 isNaN := by
  refine ⟨fun args u => enters Try.func18 (by kernel_rfl) (by kernel_rfl) _ _, fun x u => ?_⟩
  have q : (FloatKind.f32.format.order x x != some .eq) = isNaN x := rfl
  go_enter Try.func18, Try.ntmps18
  go_wp2_with fail
  go_ret
  exact ⟨rfl, rfl⟩
set_option maxRecDepth 100000 in
theorem predR : Pred 32 isNaN := by
  refine ⟨fun args u => enters Try.func32 (by kernel_rfl) (by kernel_rfl) _ _, fun x u => ?_⟩
  have q : (FloatKind.f32.format.order x x != some .eq) = isNaN x := rfl
  go_enter Try.func32, Try.ntmps32
  go_wp2_with fail
  go_ret
  exact ⟨rfl, rfl⟩

set_option maxRecDepth 100000 in
set_option maxHeartbeats 2000000 in
theorem sl_IndexFunc (g n cp : Nat) (F : FuncId) (p : Nat → Bool) (hP : Pred F p) (l : List Nat) (W : World) (hn : n ≤ 1000000) (hr : RowP W g n l) :
    Calls Try.prog 38 #[.slice (some ⟨g, 0, none⟩) n cp, .func (.func F) #[] #[]] W fun e w' => w' = W ∧ ((∃ k, k < n ∧ e = .returned (.int .i64 (k : Int)) ∧ p (l.getD k 0) = true ∧ ∀ j, j < k → p (l.getD j 0) = false) ∨ (e = .returned (.int .i64 (-1)) ∧ ∀ j, j < n → p (l.getD j 0) = false)) := by
  have hcf := hP.enter
  have lg := hr.lt
  go_enter Try.func38, Try.ntmps38
  go_wp2_with fail
  go_loopw [8] (fun iv wr => ∃ k : Nat, k ≤ n ∧ iv = .int .i64 (k : Int) ∧ wr = W ∧ ∀ j, j < k → p (l.getD j 0) = false) (fun iv _ => n - (intOf iv).toNat)
  case atStart => exact ⟨0, Nat.zero_le _, rfl, by trivial, fun j hj => absurd hj (Nat.not_lt_zero _)⟩
  case round =>
    obtain ⟨k, hk, rfl, rfl, hall⟩ := hrel
    by_cases hlt : k < n
    · have hki : (k : Int) < (n : Int) := by omega
      have c := hr.cell k hlt
      have HA := Lib.hid hall
      clear hall
      generalize hx : l.getD k 0 = x at *
      cases hq : p x
      · go_wp2_with fail
        refine (hP.at hq _).mono ?_
        rintro e w' ⟨rfl, rfl⟩
        go_wp2_with fail
        go_roundw
        case rel =>
          refine ⟨k + 1, hlt, by go_num, by trivial, fun j hj => ?_⟩
          rcases Nat.lt_succ_iff_lt_or_eq.1 hj with h | h
          · exact HA.out j h
          · rw [h, hx]; exact hq
        case measure => simp [intOf] <;> omega
      · go_wp2_with fail
        refine (hP.at hq _).mono ?_
        rintro e w' ⟨rfl, rfl⟩
        go_wp2_with fail
        go_ret
        exact ⟨rfl, .inl ⟨k, hlt, rfl, by rw [hx]; exact hq, HA.out⟩⟩
    · have hki : ¬ (k : Int) < (n : Int) := by omega
      obtain rfl : k = n := by omega
      have HA := Lib.hid hall
      clear hall
      go_wp2_with fail
      go_ret
      exact ⟨rfl, .inr ⟨rfl, HA.out⟩⟩

theorem RowP.short {w : World} {g n i : Nat} {K J : List Nat} (h : RowP w g n (K ++ J)) (hK : K.length = i) : RowP w g i K := by
  obtain ⟨_, cur, R, h1, h2⟩ := h
  exact ⟨hK, cur, J.map (Value.float .f32) ++ R, h1, by rw [h2, List.map_append, List.append_assoc]⟩
theorem RowP.past {w : World} {g i o : Nat} {K : List Nat} (h : RowP w g i K) (ho : i ≤ o) (v : Value) : RowP (w.setCell ⟨g, o, none⟩ v) g i K := by
  obtain ⟨hl, cur, R, h1, h2⟩ := h
  refine ⟨hl, cur.setIfInBounds o v, R.set (o - i) v, heap_setCell_same w g o cur _ _ h1, ?_⟩
  rw [Array.toList_setIfInBounds, h2, List.set_append_right _ _ (by simpa [hl] using ho), List.length_map, hl]
theorem RowP.pasts {g i : Nat} {K : List Nat} : ∀ (vs : List Value) (o : Nat) (w : World), RowP w g i K → i ≤ o → RowP (w.setCells g o vs) g i K
  | [], _, _, h, _ => h
  | v :: vs, o, w, h, ho => RowP.pasts vs (o + 1) _ (h.past ho v) (by omega)
theorem Oth.set {g : Nat} {w w' : World} (h : Oth g w w') (o : Nat) (v : Value) : Oth g w (w'.setCell ⟨g, o, none⟩ v) := h.trans (Oth.of_only ((Only.refl g w').set o v))
theorem Oth.sets {g : Nat} {w : World} : ∀ (vs : List Value) (o : Nat) (w' : World), Oth g w w' → Oth g w (w'.setCells g o vs)
  | [], _, _, h => h
  | v :: vs, o, w', h => Oth.sets vs (o + 1) _ (h.set o v)

def keepB (p : Nat → Bool) (l : List Nat) : List Nat := l.filter fun b => !p b

set_option maxRecDepth 100000 in
set_option maxHeartbeats 4000000 in
theorem sl_DeleteFunc (g n cp : Nat) (F : FuncId) (p : Nat → Bool) (hP : Pred F p) (l : List Nat) (W : World) (hn : n ≤ 1000000) (hcp : n ≤ cp) (hr : RowP W g n l) :
    Calls Try.prog 16 #[.slice (some ⟨g, 0, none⟩) n cp, .func (.func F) #[] #[]] W fun e w' => e = .returned (.slice (some ⟨g, 0, none⟩) (keepB p l).length cp) ∧ RowP w' g (keepB p l).length (keepB p l) ∧ Oth g W w' := by
  have hcf := hP.enter
  have hl := hr.len
  have z29 : ∀ w, (zeroValue 29).run Try.prog w = .ok (.float .f32 0) w := fun w => by kernel_rfl
  go_enter Try.func16, Try.ntmps16
  go_wp2_with fail
  refine (sl_IndexFunc g n cp F p hP l _ hn hr).mono ?_
  rintro e w' ⟨rfl, ⟨k, hk, rfl, hpk, hall⟩ | ⟨rfl, hall⟩⟩
  · have hne : ((k : Int) == -1) = false := beq_eq_false_iff_ne.2 (by omega)
    have e0 : l = l.take k ++ l.getD k 0 :: l.drop (k + 1) := by
      have h1 : l.drop k = l.getD k 0 :: l.drop (k + 1) := by
        rw [List.drop_eq_getElem_cons (by omega)]
        congr 1
        simp [List.getD_eq_getElem?_getD, show k < l.length by omega]
      rw [← h1, List.take_append_drop]
    have e1 : keepB p (l.take k) = l.take k := by
      unfold keepB
      rw [List.filter_eq_self]
      intro x hx
      obtain ⟨j, hj, rfl⟩ := List.mem_iff_getElem.1 hx
      rw [List.length_take] at hj
      have := hall j (by omega)
      rw [List.getD_eq_getElem?_getD, List.getElem?_eq_getElem (show j < l.length by omega)] at this
      rw [List.getElem_take]
      simpa using this
    have HE := Lib.hid (And.intro e0 (And.intro e1 (And.intro hall hpk)))
    clear e0 e1 hall hpk
    go_wp2_with fail
    go_loopw [5, 6] (fun iv jv wr => ∃ (i j : Nat) (P T K J : List Nat) (y : Nat), iv = .int .i64 (i : Int) ∧ jv = .int .i64 (j : Int) ∧ j ≤ n ∧ i < j ∧ RowP wr g n (K ++ y :: (J ++ T)) ∧ Hid (l = P ++ T ∧ K = keepB p P ∧ K.length = i ∧ P.length = j ∧ J.length + i + 1 = j) ∧ Oth g w' wr) (fun _ jv _ => n - (intOf jv).toNat)
    case atStart =>
      refine ⟨k, k + 1, l.take k ++ [l.getD k 0], l.drop (k + 1), l.take k, [], l.getD k 0, rfl, by go_num, by omega, by omega, ?_, Lib.hid ⟨?_, ?_, ?_, ?_, ?_⟩, Oth.refl _ _⟩
      · rw [List.nil_append, ← HE.out.1]; exact hr
      · rw [List.append_assoc, List.singleton_append]; exact HE.out.1
      · unfold keepB
        rw [List.filter_append, ← keepB.eq_1, HE.out.2.1]
        have hh := HE.out.2.2.2
        rw [List.getD_eq_getElem?_getD] at hh
        simp [hh]
      · simp; omega
      · simp; omega
      · simp
    case round =>
      clear hr
      obtain ⟨i, j, P, T, K, J, y, rfl, rfl, hj, hij, row, HI, oth⟩ := hrel
      by_cases hlt : j < n
      · have hji : (j : Int) < (n : Int) := by omega
        obtain ⟨x, T2, rfl⟩ : ∃ x T2, T = x :: T2 := by
          cases T with
          | nil => exfalso; obtain ⟨h1, h2, h3, h4, h5⟩ := HI.out; rw [List.append_nil] at h1; rw [h1] at hl; omega
          | cons x T2 => exact ⟨x, T2, rfl⟩
        have hKl := HI.out.2.2.1
        obtain ⟨c1, _⟩ := rowP_at (i := j) row (show K ++ y :: (J ++ x :: T2) = (K ++ y :: J) ++ x :: T2 by simp) (by obtain ⟨h1, h2, h3, h4, h5⟩ := HI.out; simp; omega)
        have f1 := row.frozen i
        obtain ⟨c2, _⟩ := rowP_at (i := i) row rfl hKl.symm
        have lg := row.lt
        have st : RowP (wr.setCell ⟨g, i, none⟩ (.float .f32 x)) g n (K ++ x :: (J ++ x :: T2)) := by
          have h1 := row.store i x
          rw [St.set_at hKl.symm] at h1
          exact h1
        have ot := oth.set i (.float .f32 x)
        have HW := Lib.hid (And.intro st (And.intro ot (And.intro row oth)))
        clear st ot hKl row oth
        cases hq : p x
        · go_wp2_with fail
          refine (hP.at hq _).mono ?_
          rintro e w2 ⟨rfl, rfl⟩
          go_wp2_with fail
          go_roundw
          case rel =>
            obtain ⟨h1, h2, h3, h4, h5⟩ := HI.out
            cases J with
            | nil => exact ⟨i + 1, j + 1, P ++ [x], T2, K ++ [x], [], x, by go_num, by go_num, hlt, by omega, by simpa using HW.out.1, Lib.hid ⟨by rw [h1]; simp, by unfold keepB at *; rw [List.filter_append, ← h2]; simp [hq], by simp; omega, by simp; omega, by simp at h5 ⊢; omega⟩, HW.out.2.1⟩
            | cons z J2 => exact ⟨i + 1, j + 1, P ++ [x], T2, K ++ [x], J2 ++ [x], z, by go_num, by go_num, hlt, by omega, by simpa using HW.out.1, Lib.hid ⟨by rw [h1]; simp, by unfold keepB at *; rw [List.filter_append, ← h2]; simp [hq], by simp; omega, by simp; omega, by simp at h5 ⊢; omega⟩, HW.out.2.1⟩
          case measure => simp [intOf] <;> omega
        · go_wp2_with fail
          refine (hP.at hq _).mono ?_
          rintro e w2 ⟨rfl, rfl⟩
          go_wp2_with fail
          go_roundw
          case rel =>
            obtain ⟨h1, h2, h3, h4, h5⟩ := HI.out
            exact ⟨i, j + 1, P ++ [x], T2, K, J ++ [x], y, rfl, by go_num, hlt, by omega, by simpa using HW.out.2.2.1, Lib.hid ⟨by rw [h1]; simp, by unfold keepB at *; rw [List.filter_append, ← h2]; simp [hq], h3, by simp; omega, by simp; omega⟩, HW.out.2.2.2⟩
          case measure => simp [intOf] <;> omega
      · have hji : ¬ (j : Int) < (n : Int) := by omega
        obtain rfl : j = n := by omega
        have hT : T = [] := by
          obtain ⟨h1, h2, h3, h4, h5⟩ := HI.out
          have : l.length = P.length + T.length := by rw [h1, List.length_append]
          exact List.length_eq_zero_iff.1 (by omega)
        have hcl : ∀ ty, (Builtin.clear_ #[24] ty #[.slice (some ⟨g, i, none⟩) (j - i) (cp - i)]).run Try.prog wr = .ok (.tuple #[]) (wr.setCells g i (List.replicate (j - i) (.float .f32 0))) :=
          fun ty => Lib.run_clear_slice wr _ _ ty _ Try.underlying24 z29 rfl rfl g i _ _ (by omega) (fun t ht => by rw [row.cell (i + t) (by omega)]; rfl) (fun t _ => row.frozen (i + t))
        have hK := HI.out.2.2.1
        have e5 : K = keepB p l := by obtain ⟨h1, h2, h3, h4, h5⟩ := HI.out; rw [h2, h1, hT, List.append_nil]
        have row2 := RowP.pasts (List.replicate (j - i) (.float .f32 0)) i wr (row.short hK) (Nat.le_refl _)
        have oth2 := Oth.sets (List.replicate (j - i) (.float .f32 0)) i wr oth
        have hic : i ≤ cp := by omega
        have HW := Lib.hid (And.intro row2 (And.intro oth2 (And.intro e5 hK)))
        clear row2 oth2 e5 hK row oth hT HI
        go_wp2_with fail
        go_ret
        obtain ⟨r2, o2, rfl, hK⟩ := HW.out
        rw [hK]
        exact ⟨rfl, r2, o2⟩
  · have e1 : keepB p l = l := by
      unfold keepB
      rw [List.filter_eq_self]
      intro x hx
      obtain ⟨j, hj, rfl⟩ := List.mem_iff_getElem.1 hx
      have := hall j (by omega)
      rw [List.getD_eq_getElem?_getD, List.getElem?_eq_getElem hj] at this
      simpa using this
    have HE := Lib.hid e1
    clear e1 hall
    go_wp2_with fail
    go_ret
    rw [HE.out, hl]
    exact ⟨rfl, hr, Oth.refl _ _⟩

set_option maxRecDepth 100000 in
set_option maxHeartbeats 4000000 in
theorem sl_MinFunc (g n cp : Nat) (F : FuncId) (c : Nat → Nat → Int) (V : Nat → Prop) (hC : Cmp F c V) (hn : n ≤ 1000000) (m : Nat) (l : List Nat) (W : World) (hr : RowP W g n (m :: l)) (hm : V m) (hv : St.VL V l) :
    Calls Try.prog 20 #[.slice (some ⟨g, 0, none⟩) n cp, .func (.func F) #[] #[]] W fun e w' => e = .returned (.float .f32 (minF c l m)) ∧ Below W.heap.size W w' := by
  have hcf := hC.enter
  have hl := hr.len
  have h1 : ¬ (n : Int) < 1 := by simp at hl; omega
  obtain ⟨c0, _⟩ := rowP_at (A := []) (i := 0) hr rfl rfl
  have lg := hr.lt
  have n0 : 0 < n := by simp at hl; omega
  go_enter Try.func20, Try.ntmps20
  go_wp2_with fail
  clear c0
  go_loopw [5, 6] (fun mv iv wr => ∃ (i b : Nat) (P T : List Nat), mv = .float .f32 b ∧ iv = .int .i64 (i : Int) ∧ i ≤ n ∧ V b ∧ Hid (m :: l = P ++ T ∧ P.length = i ∧ minF c T b = minF c l m) ∧ Below W.heap.size W wr) (fun _ iv _ => n - (intOf iv).toNat)
  case atStart => exact ⟨1, m, [m], l, rfl, by go_num, by omega, hm, Lib.hid ⟨rfl, rfl, rfl⟩, Below.refl _ _⟩
  case round =>
    obtain ⟨i, b, P, T, rfl, rfl, hi, hb, HI, B⟩ := hrel
    have row := hr.keep B
    by_cases hlt : i < n
    · have hji : (i : Int) < (n : Int) := by omega
      obtain ⟨x, T2, rfl⟩ : ∃ x T2, T = x :: T2 := by
        cases T with
        | nil => exfalso; obtain ⟨h1, h2, h3⟩ := HI.out; rw [List.append_nil] at h1; rw [h1] at hl; omega
        | cons x T2 => exact ⟨x, T2, rfl⟩
      have hvx : V x := by
        have hall : St.VL V (m :: l) := St.VL.cons.2 ⟨hm, hv⟩
        rw [HI.out.1] at hall
        exact (St.VL.cons.1 (St.VL.app.1 hall).2).1
      obtain ⟨c1, _⟩ := rowP_at (i := i) row HI.out.1 HI.out.2.1.symm
      have f1 := row.lt
      clear row
      obtain ⟨r, hq⟩ : ∃ r, c x b = r := ⟨_, rfl⟩
      by_cases hneg : r < 0
      · go_wp2_with fail
        refine (hC.at hq hvx hb _).mono ?_
        rintro e w2 ⟨rfl, hb2⟩
        have c2 : w2.cell? ⟨g, i, none⟩ = some (.float .f32 x) := by rw [hb2.cell f1]; exact c1
        have f2 : g < w2.heap.size := Nat.lt_of_lt_of_le f1 hb2.size
        replace B := bcall B hb2
        clear c1 f1 hb2
        go_wp2_with fail
        go_roundw
        case rel =>
          obtain ⟨h1, h2, h3⟩ := HI.out
          exact ⟨i + 1, x, P ++ [x], T2, rfl, by go_num, hlt, hvx, Lib.hid ⟨by rw [h1]; simp, by simp; omega, by rw [← h3]; show minF c T2 x = minF c T2 (if c x b < 0 then x else b); rw [hq, if_pos hneg]⟩, B⟩
        case measure => simp [intOf] <;> omega
      · go_wp2_with fail
        refine (hC.at hq hvx hb _).mono ?_
        rintro e w2 ⟨rfl, hb2⟩
        replace B := bcall B hb2
        clear c1 f1 hb2
        go_wp2_with fail
        go_roundw
        case rel =>
          obtain ⟨h1, h2, h3⟩ := HI.out
          exact ⟨i + 1, b, P ++ [x], T2, rfl, by go_num, hlt, hb, Lib.hid ⟨by rw [h1]; simp, by simp; omega, by rw [← h3]; show minF c T2 b = minF c T2 (if c x b < 0 then x else b); rw [hq, if_neg (by omega)]⟩, B⟩
        case measure => simp [intOf] <;> omega
    · have hji : ¬ (i : Int) < (n : Int) := by omega
      have hT : T = [] := by
        obtain ⟨h1, h2, h3⟩ := HI.out
        have : (m :: l).length = P.length + T.length := by rw [h1, List.length_append]
        exact List.length_eq_zero_iff.1 (by omega)
      go_wp2_with fail
      go_ret
      obtain ⟨h1, h2, h3⟩ := HI.out
      rw [hT] at h3
      exact ⟨by rw [← h3]; rfl, B⟩
set_option maxRecDepth 100000 in
set_option maxHeartbeats 4000000 in
theorem sl_MaxFunc (g n cp : Nat) (F : FuncId) (c : Nat → Nat → Int) (V : Nat → Prop) (hC : Cmp F c V) (hn : n ≤ 1000000) (m : Nat) (l : List Nat) (W : World) (hr : RowP W g n (m :: l)) (hm : V m) (hv : St.VL V l) :
    Calls Try.prog 22 #[.slice (some ⟨g, 0, none⟩) n cp, .func (.func F) #[] #[]] W fun e w' => e = .returned (.float .f32 (maxF c l m)) ∧ Below W.heap.size W w' := by
  have hcf := hC.enter
  have hl := hr.len
  have h1 : ¬ (n : Int) < 1 := by simp at hl; omega
  obtain ⟨c0, _⟩ := rowP_at (A := []) (i := 0) hr rfl rfl
  have lg := hr.lt
  have n0 : 0 < n := by simp at hl; omega
  go_enter Try.func22, Try.ntmps22
  go_wp2_with fail
  clear c0
  go_loopw [5, 6] (fun mv iv wr => ∃ (i b : Nat) (P T : List Nat), mv = .float .f32 b ∧ iv = .int .i64 (i : Int) ∧ i ≤ n ∧ V b ∧ Hid (m :: l = P ++ T ∧ P.length = i ∧ maxF c T b = maxF c l m) ∧ Below W.heap.size W wr) (fun _ iv _ => n - (intOf iv).toNat)
  case atStart => exact ⟨1, m, [m], l, rfl, by go_num, by omega, hm, Lib.hid ⟨rfl, rfl, rfl⟩, Below.refl _ _⟩
  case round =>
    obtain ⟨i, b, P, T, rfl, rfl, hi, hb, HI, B⟩ := hrel
    have row := hr.keep B
    by_cases hlt : i < n
    · have hji : (i : Int) < (n : Int) := by omega
      obtain ⟨x, T2, rfl⟩ : ∃ x T2, T = x :: T2 := by
        cases T with
        | nil => exfalso; obtain ⟨h1, h2, h3⟩ := HI.out; rw [List.append_nil] at h1; rw [h1] at hl; omega
        | cons x T2 => exact ⟨x, T2, rfl⟩
      have hvx : V x := by
        have hall : St.VL V (m :: l) := St.VL.cons.2 ⟨hm, hv⟩
        rw [HI.out.1] at hall
        exact (St.VL.cons.1 (St.VL.app.1 hall).2).1
      obtain ⟨c1, _⟩ := rowP_at (i := i) row HI.out.1 HI.out.2.1.symm
      have f1 := row.lt
      clear row
      obtain ⟨r, hq⟩ : ∃ r, c x b = r := ⟨_, rfl⟩
      by_cases hneg : 0 < r
      · go_wp2_with fail
        refine (hC.at hq hvx hb _).mono ?_
        rintro e w2 ⟨rfl, hb2⟩
        have c2 : w2.cell? ⟨g, i, none⟩ = some (.float .f32 x) := by rw [hb2.cell f1]; exact c1
        have f2 : g < w2.heap.size := Nat.lt_of_lt_of_le f1 hb2.size
        replace B := bcall B hb2
        clear c1 f1 hb2
        go_wp2_with fail
        go_roundw
        case rel =>
          obtain ⟨h1, h2, h3⟩ := HI.out
          exact ⟨i + 1, x, P ++ [x], T2, rfl, by go_num, hlt, hvx, Lib.hid ⟨by rw [h1]; simp, by simp; omega, by rw [← h3]; show maxF c T2 x = maxF c T2 (if c x b > 0 then x else b); rw [hq, if_pos hneg]⟩, B⟩
        case measure => simp [intOf] <;> omega
      · go_wp2_with fail
        refine (hC.at hq hvx hb _).mono ?_
        rintro e w2 ⟨rfl, hb2⟩
        replace B := bcall B hb2
        clear c1 f1 hb2
        go_wp2_with fail
        go_roundw
        case rel =>
          obtain ⟨h1, h2, h3⟩ := HI.out
          exact ⟨i + 1, b, P ++ [x], T2, rfl, by go_num, hlt, hb, Lib.hid ⟨by rw [h1]; simp, by simp; omega, by rw [← h3]; show maxF c T2 b = maxF c T2 (if c x b > 0 then x else b); rw [hq, if_neg (by omega)]⟩, B⟩
        case measure => simp [intOf] <;> omega
    · have hji : ¬ (i : Int) < (n : Int) := by omega
      have hT : T = [] := by
        obtain ⟨h1, h2, h3⟩ := HI.out
        have : (m :: l).length = P.length + T.length := by rw [h1, List.length_append]
        exact List.length_eq_zero_iff.1 (by omega)
      go_wp2_with fail
      go_ret
      obtain ⟨h1, h2, h3⟩ := HI.out
      rw [hT] at h3
      exact ⟨by rw [← h3]; rfl, B⟩
end Go.Proofs.Ytlfcedecobebmaa
