/- conform.ends: where a film ends. -/
import Derived.Test.YtemlabmmafcapaaGreatDoorDaS
import Derived.Test.YtemlabmmafcapaaGreatDoorSlp
namespace Go.Proofs.YtemlabmmafcapaaGreatDoor
open Go.RowKit

set_option maxRecDepth 100000 in
set_option maxHeartbeats 4000000 in
theorem conform_ends (title : ByteArray) (rate : Int) (v : Value) (es : List Ev) (W : World) (hs : SlE W v es) (hok : evsTo es es.length = 0) :
    Calls Tryz.prog 28 #[.agg #[.string title, .int .i64 rate, v]] W fun e w' => e = .returned (.int .i64 (lastE es)) ∧ Below W.heap.size W w' := by
  obtain ⟨a, c, rfl, hmax, hform⟩ := hs
  unfold maxLen at hmax
  obtain ⟨n, hn⟩ : ∃ n, n = es.length := ⟨_, rfl⟩
  by_cases hn0 : n = 0
  · have hl : lastE es = 0 := by unfold lastE; rw [if_pos (by omega)]
    rw [hl, ← hn, hn0]
    clear hl hform hok hmax hn hn0
    go_enter Tryz.func28, Tryz.ntmps28
    go_wp2_with fail
    go_ret
    exact ⟨rfl, bnew (Below.refl _ W)⟩
  · rcases hform with h0 | ⟨b, o, rfl, hbl, hat⟩
    · rw [h0] at hn; exact absurd hn hn0
    obtain ⟨n1, hn1⟩ : ∃ n1, n = n1 + 1 := ⟨n - 1, by omega⟩
    have hl : lastE es = (es.getD n1 default).pos + (es.getD n1 default).out - (es.getD n1 default).inn := by unfold lastE; rw [if_neg (by omega), show es.length - 1 = n1 by omega]; rfl
    rw [hl]
    obtain ⟨c0, c1, c2, c3, c4, c5⟩ := hat n1 (by omega)
    obtain ⟨b1, b2, b3, b4, b5, -, -⟩ := ev_bounds hok (j := n1) (by omega)
    rw [← hn]
    clear hl hat hok
    generalize (es.getD n1 default).reel = reel at c0
    generalize (es.getD n1 default).kind = kind at c1
    generalize (es.getD n1 default).len = len at c2
    generalize (es.getD n1 default).inn = inn at c3 b1 b2 ⊢
    generalize (es.getD n1 default).out = out at c4 b2 b3 ⊢
    generalize (es.getD n1 default).pos = pos at c5 b4 b5 ⊢
    have e0 : ((n : Int) == 0) = false := by simp; omega
    have hn2 : (n : Int) - 1 = (n1 : Int) := by omega
    have hn3 : (n1 : Int) < (n : Int) := by omega
    have hn4 : (n1 : Int) < 9223372036854775807 := by omega
    clear hn hn0 hmax
    have Hn1 := Lib.hid hn1
    clear hn1
    go_enter Tryz.func28, Tryz.ntmps28
    go_upto_region 4 with fail
    refine name_world ?_
    intro w1 hw1
    have x3 : Bx w1 (W.heap.size + 1) 55 #[.string reel, .int .i64 kind, .int .i64 len, .int .i64 inn, .int .i64 out, .int .i64 pos] := by rw [hw1]; exact Bx.at _ (by simp)
    have B : Below W.heap.size W w1 := by rw [hw1]; exact bnew (bnew (Below.refl _ W))
    clear hw1 c0 c1 c2 c3 c4 c5
    refine wp_region_grd 5 (fun _ => false) (fun q u w' => u = [.pointer (some ⟨W.heap.size + 1, 5, none⟩), .int .i64 pos, .agg #[.string reel, .int .i64 kind, .int .i64 len, .int .i64 inn, .int .i64 out, .int .i64 pos], .int .i64 (out - inn), .int .i64 (pos + (out - inn))].getD q undef) (fun _ => false) (fun w' => Below w1.heap.size w1 w') (by kernel_rfl) (by kernel_rfl) (fun _ _ _ _ _ h => h)
      (fun _ _ h e => e.trans (h.mono e.size)) (fun t u a' b' hb h => ?_) (Below.refl _ _).drew ?_ ?_ ?_
    · exact h
    · intro t op ht hlt hop
      clear hlt
      rcases (by omega : t = 0 ∨ t = 1 ∨ t = 2 ∨ t = 3 ∨ t = 4) with rfl | rfl | rfl | rfl | rfl
      all_goals simp only [List.getElem?_cons_zero, List.getElem?_cons_succ, Option.some.injEq] at hop
      all_goals subst hop
      all_goals intro a wx hE hag hdep
      · refine grd_none rfl ?_
        have e0 := slot_eq (hag 3 rfl)
        exact rel_pure _ rfl rfl (by simp [go_sem, e0])
      · refine grd_none rfl ?_
        have e0 := slot_eq (hdep ⟨0, .data⟩ (by simp) rfl)
        have hq := (x3.keep hE).all.1
        exact rel_pure _ rfl rfl (by simp [go_sem, e0, hq])
      · refine grd_none rfl ?_
        have e0 := slot_eq (hag 3 rfl)
        have hq := (x3.keep hE).all.1
        exact rel_pure _ rfl rfl (by simp [go_sem, e0, hq])
      · refine grd_none rfl ?_
        have e0 := slot_eq (hdep ⟨2, .data⟩ (by simp) rfl)
        refine rel_call (f := 15) (args := #[.agg #[.string reel, .int .i64 kind, .int .i64 len, .int .i64 inn, .int .i64 out, .int .i64 pos]]) (run_go_call Tryz.func15 (by kernel_rfl) (by kernel_rfl) _ _ _ _ _ _ _ _ _ _ (by simp [Act.eval, e0])) rfl ?_
        refine (conform_long reel kind len inn out pos wx b1 b2 b3).mono ?_
        rintro e w' ⟨rfl, hbx⟩
        exact ⟨_, rfl, rfl, hbx⟩
      · refine grd_none rfl ?_
        have e0 := slot_eq (hdep ⟨1, .data⟩ (by simp) rfl)
        have e1 := slot_eq (hdep ⟨3, .data⟩ (by simp) rfl)
        have hw : IntKind.i64.wrap (pos + (out - inn)) = pos + (out - inn) := IntWalk.i64_in _ (by omega)
        exact rel_pure _ rfl rfl (by simp [go_sem, e0, e1, hw])
    · intro t op ht hlt; cases hlt
    intro vs wy hE hvs _
    have k4 : vs 4 = .int .i64 (pos + (out - inn)) := hvs 4 (by omega)
    simp only [List.drop_succ_cons, List.drop_zero, putAll, dstAt, List.getElem?_toArray, List.getElem?_cons_zero, List.getElem?_cons_succ, Option.bind_some, Act.put, List.setIfInBounds_toArray, List.set_cons_zero, List.set_cons_succ, k4]
    clear hvs k4
    replace B := B.trans (hE.mono B.size)
    clear hE x3
    go_wp2_with fail
    go_ret
    exact ⟨ret_int (by omega), B⟩
end Go.Proofs.YtemlabmmafcapaaGreatDoor
