/- slices.Equal and slices.ContainsFunc at pulls: is a frame of a reel fetched? -/
import Derived.Test.YteebkfdocdmboaaDoorEmB
import Derived.Test.YteebkfdocdmboaaDoorEmP
import Derived.BigQuiet
namespace Go.Proofs.YteebkfdocdmboaaDoor
open Go.RowKit

/-- A slice of pulls, without the block's owner. -/
def SlQ (w : World) (v : Value) (L : List Pl) : Prop := ∃ a c, v = .slice a L.length c ∧ (0 < L.length → ∃ g, a = some ⟨g, 0, none⟩ ∧ g < w.heap.size ∧ RowQ w g L.length L)
theorem SlQ.keep {w w' : World} {v : Value} {L : List Pl} (h : SlQ w v L) (hb : Below w.heap.size w w') : SlQ w' v L := by
  obtain ⟨a, c, h1, h2⟩ := h
  exact ⟨a, c, h1, fun h0 => by obtain ⟨g, e, l, r⟩ := h2 h0; exact ⟨g, e, Nat.lt_of_lt_of_le l hb.size, r.keep hb⟩⟩
theorem OwnQ.sl {B : Nat} {w : World} {v : Value} {L : List Pl} (h : OwnQ B w v L) : SlQ w v L := by
  rcases h.form with ⟨rfl, rfl⟩ | ⟨g, c, rfl, _, l, _, r⟩
  · exact ⟨none, 0, rfl, fun h => absurd h (by simp)⟩
  · exact ⟨_, c, rfl, fun _ => ⟨g, rfl, l, r⟩⟩

set_option maxRecDepth 100000 in
set_option maxHeartbeats 4000000 in
theorem slices_EqualPl {v u : Value} {L : List Pl} (W : World) (hv : SlQ W v L) (hu : SlQ W u L) (hmax : L.length ≤ 1000000) :
    Calls Tryd.prog 11 #[v, u] W fun e w' => e = .returned (.bool true) ∧ Below W.heap.size W w' := by
  obtain ⟨a1, c1, rfl, hv⟩ := hv
  obtain ⟨a2, c2, rfl, hu⟩ := hu
  obtain ⟨N, hN⟩ : ∃ N, N = L.length := ⟨_, rfl⟩
  rw [← hN] at hv hu hmax ⊢
  clear hN
  have HV := Lib.hid hv
  have HU := Lib.hid hu
  clear hv hu
  go_enter Tryd.func11, Tryd.ntmps11
  go_wp2_with fail
  go_loopw [13] (fun s wr => ∃ k : Nat, k ≤ N ∧ s = .int .i64 (k : Int) ∧ Below W.heap.size W wr) (fun s _ => N - (intOf s).toNat)
  case atStart => exact ⟨0, by omega, rfl, Below.refl _ _⟩
  case round =>
    obtain ⟨k, hk, rfl, hbl⟩ := hrel
    by_cases hlt : k < N
    · obtain ⟨g1, rfl, l1, r1⟩ := HV.out (by omega)
      obtain ⟨g2, rfl, l2, r2⟩ := HU.out (by omega)
      obtain ⟨p1, p2, p3⟩ := (r1.keep hbl).cell k hlt
      obtain ⟨q1, q2, q3⟩ := (r2.keep hbl).cell k hlt
      generalize L.getD k default = p at p1 p2 p3 q1 q2 q3
      obtain ⟨x, y, z⟩ := p
      have hki : (k : Int) < (N : Int) := by omega
      clear r1 r2
      go_wp2_with fail
      go_quiet (fail)
      go_wp2_with fail
      go_roundw
      case rel => exact ⟨k + 1, by omega, by go_num, below_drewN hbl _⟩
      case measure => simp [intOf]; omega
    · have hkN : k = N := by omega
      subst hkN
      go_wp2_with fail
      go_ret
      exact ⟨rfl, hbl⟩

/-- A frame of a reel within a pull. -/
def inPl (r : ByteArray) (n : Int) (p : Pl) : Bool := decide (p.reel = r) && (decide (p.inn ≤ n) && decide (n < p.out))
theorem inPl_any {L : List Pl} {r : ByteArray} {n : Int} (h : cov L r n) : L.any (inPl r n) = true := by
  obtain ⟨q, hq, h1, h2, h3⟩ := h
  refine List.any_eq_true.2 ⟨q, hq, ?_⟩
  unfold inPl
  rw [decide_eq_true h1, decide_eq_true h2, decide_eq_true h3]
  rfl
theorem toList_beq' (a b : ByteArray) : (a.toList == b.toList) = decide (a = b) := by
  by_cases h : a = b
  · subst h; simp
  · rw [decide_eq_false h]
    apply Bool.eq_false_iff.2
    intro e
    have e := eq_of_beq e
    rw [Lib.toList_data, Lib.toList_data] at e
    exact h (ByteArray.ext (Array.toList_inj.1 e))
set_option maxRecDepth 100000 in
set_option maxHeartbeats 4000000 in
theorem law_fetched1 (pr : ByteArray) (x y : Int) (r : ByteArray) (f : Int) {p q : Nat} {T U : TypeId} (W : World) (hp : Bx W p T #[.string r]) (hq : Bx W q U #[.int .i64 f]) :
    Calls Tryd.prog 14 #[.agg #[.string pr, .int .i64 x, .int .i64 y], .pointer (some ⟨p, 0, none⟩), .pointer (some ⟨q, 0, none⟩)] W fun e w' => e = .returned (.bool (inPl r f ⟨pr, x, y⟩)) ∧ Below W.heap.size W w' := by
  have hr : inPl r f ⟨pr, x, y⟩ = (decide (pr = r) && (decide (x ≤ f) && decide (f < y))) := rfl
  rw [hr, ← toList_beq']
  clear hr
  cases h0 : (pr.toList == r.toList) <;> cases h1 : decide (x ≤ f) <;> cases h2 : decide (f < y)
  all_goals
    go_enter Tryd.func14, Tryd.ntmps14
    go_upto_region 1 with fail
    refine name_world ?_
    intro w0 hw0
    have x2 : Bx w0 W.heap.size 38 #[.string pr, .int .i64 x, .int .i64 y] := by rw [hw0]; exact Bx.new _ _ _
    have B : Below W.heap.size W w0 := by rw [hw0]; exact bnew (Below.refl _ W)
    have hp0 := hp.keep B
    have hq0 := hq.keep B
    clear hw0
    obtain ⟨q2, f2, l2⟩ := x2.all
    obtain ⟨qp, fp, lp⟩ := hp0.all
    obtain ⟨qq, fq, lq⟩ := hq0.all
    go_wp2_with fail
    go_ret
    exact ⟨rfl, B⟩
theorem any_takeP {q : Pl → Bool} (ps : List Pl) (k : Nat) (hk : k < ps.length) (h : (ps.take k).any q = false) : (q (ps.getD k default) = true → ps.any q = true) ∧ (q (ps.getD k default) = false → (ps.take (k + 1)).any q = false) := by
  have e : ps.getD k default = ps[k] := by simp [List.getD, hk]
  rw [e]
  refine ⟨fun h1 => List.any_eq_true.2 ⟨ps[k], List.getElem_mem hk, h1⟩, fun h1 => ?_⟩
  rw [List.take_succ_eq_append_getElem hk, List.any_append, h]
  simp [h1]
set_option maxRecDepth 100000 in
set_option maxHeartbeats 4000000 in
theorem index_fetched {v : Value} {L : List Pl} {p q : Nat} {T U : TypeId} (r : ByteArray) (f : Int) (W : World) (hv : SlQ W v L) (hp : Bx W p T #[.string r]) (hq : Bx W q U #[.int .i64 f]) (hmax : L.length ≤ 1000000) :
    Calls Tryd.prog 32 #[v, .func (.func 14) #[] #[.pointer (some ⟨p, 0, none⟩), .pointer (some ⟨q, 0, none⟩)]] W fun e w' => ∃ i, e = .returned (.int .i64 i) ∧ decide (0 ≤ i) = L.any (inPl r f) ∧ Below W.heap.size W w' := by
  obtain ⟨a, c, rfl, hv2⟩ := hv
  obtain ⟨N, hN⟩ : ∃ N, N = L.length := ⟨_, rfl⟩
  rw [← hN] at hmax hv2 ⊢
  have Hn := Lib.hid hN
  have HV := Lib.hid hv2
  clear hN hv2
  generalize hres : L.any (inPl r f) = res
  have Hres := Lib.hid hres
  clear hres
  go_enter Tryd.func32, Tryd.ntmps32
  go_wp2_with fail
  go_loopw [8] (fun i wr => ∃ k : Nat, k ≤ N ∧ i = .int .i64 (k : Int) ∧ Hid ((L.take k).any (inPl r f) = false) ∧ Below W.heap.size W wr) (fun i _ => N - (intOf i).toNat)
  case atStart => exact ⟨0, by omega, rfl, Lib.hid (by simp), Below.refl _ _⟩
  case round =>
    obtain ⟨k, hk, rfl, hz, B⟩ := hrel
    by_cases hlt : k < N
    · obtain ⟨g, rfl, hbl, row⟩ := HV.out (by omega)
      obtain ⟨e1, e2, e3⟩ := (row.keep B).cell k hlt
      obtain ⟨t1, t2⟩ := any_takeP L k (by rw [← Hn.out]; exact hlt) hz.out
      have T := Lib.hid (And.intro t1 t2)
      generalize L.getD k default = pl at *
      obtain ⟨pr, px, py⟩ := pl
      have hki : (k : Int) < (N : Int) := by omega
      clear row t1 t2
      go_wp2_with fail
      refine (law_fetched1 pr px py r f _ (hp.keep B) (hq.keep B)).mono ?_
      cases hb : inPl r f ⟨pr, px, py⟩
      · rintro e w1 ⟨rfl, hb1⟩
        replace B := bcall B hb1
        have hz2 := Lib.hid (T.out.2 hb)
        clear hb1 T hb hz
        go_wp2_with fail
        go_roundw
        case rel => exact ⟨k + 1, by omega, by go_num, hz2, B⟩
        case measure => simp [intOf]; omega
      · rintro e w1 ⟨rfl, hb1⟩
        replace B := bcall B hb1
        obtain rfl : res = true := by rw [← Hres.out]; exact T.out.1 hb
        clear hb1 T hb hz
        go_wp2_with fail
        go_ret
        exact ⟨_, rfl, decide_eq_true (by omega), B⟩
    · obtain rfl : k = N := by omega
      obtain rfl : res = false := by
        have h := hz.out
        rw [Hn.out, List.take_length] at h
        rw [← Hres.out]; exact h
      go_wp2_with fail
      go_ret
      exact ⟨_, rfl, by decide, B⟩
set_option maxRecDepth 100000 in
set_option maxHeartbeats 2000000 in
theorem contains_fetched {v : Value} {L : List Pl} {p q : Nat} {T U : TypeId} (r : ByteArray) (f : Int) (W : World) (hv : SlQ W v L) (hp : Bx W p T #[.string r]) (hq : Bx W q U #[.int .i64 f]) (hmax : L.length ≤ 1000000) :
    Calls Tryd.prog 13 #[v, .func (.func 14) #[] #[.pointer (some ⟨p, 0, none⟩), .pointer (some ⟨q, 0, none⟩)]] W fun e w' => e = .returned (.bool (L.any (inPl r f))) ∧ Below W.heap.size W w' := by
  have K := Lib.hid (fun w (h : SlQ w v L) (hp : Bx w p T #[.string r]) (hq : Bx w q U #[.int .i64 f]) => index_fetched r f w h hp hq hmax)
  have HS := Lib.hid hv
  have HP := Lib.hid hp
  have HQ := Lib.hid hq
  clear hv hp hq
  generalize L.any (inPl r f) = res at *
  go_enter Tryd.func13, Tryd.ntmps13
  go_wp2_with fail
  refine (K.out _ HS.out HP.out HQ.out).mono ?_
  rintro e w1 ⟨i, rfl, hi, B⟩
  go_wp2_with fail
  go_ret
  exact ⟨rfl, B⟩
set_option maxRecDepth 100000 in
set_option maxHeartbeats 2000000 in
/-- The law's own has: the slice lies in a variable. -/
theorem law_has {v : Value} {L : List Pl} {p : Nat} {T : TypeId} (r : ByteArray) (f : Int) (W : World) (hv : SlQ W v L) (hp : Bx W p T #[v]) (hmax : L.length ≤ 1000000) :
    Calls Tryd.prog 12 #[.string r, .int .i64 f, .pointer (some ⟨p, 0, none⟩)] W fun e w' => e = .returned (.bool (L.any (inPl r f))) ∧ Below W.heap.size W w' := by
  have K := Lib.hid (fun w (p q : Nat) (T U : TypeId) (h : SlQ w v L) (hp : Bx w p T #[.string r]) (hq : Bx w q U #[.int .i64 f]) => contains_fetched r f w h hp hq hmax)
  have HS := Lib.hid hv
  obtain ⟨a, c, rfl, _⟩ := hv
  generalize L.length = n at *
  go_enter Tryd.func12, Tryd.ntmps12
  go_upto_region 1 with fail
  refine name_world ?_
  intro w0 hw0
  have x3 : Bx w0 W.heap.size 9 #[.string r] := by rw [hw0]; exact (Bx.new _ _ _).alloc _
  have x4 : Bx w0 (W.heap.size + 1) 3 #[.int .i64 f] := by rw [hw0]; exact Bx.at _ (by simp)
  have B : Below W.heap.size W w0 := by rw [hw0]; exact bnew (bnew (Below.refl _ W))
  have hp0 := hp.keep B
  clear hw0 hp
  obtain ⟨q5, f5, l5⟩ := hp0.all
  go_wp2_with fail
  refine (K.out _ _ _ _ _ (HS.out.keep B) x3 x4).mono ?_
  rintro e w1 ⟨rfl, hb⟩
  have B1 := bcall B hb
  go_wp2_with fail
  go_ret
  exact ⟨rfl, B1⟩
end Go.Proofs.YteebkfdocdmboaaDoor
