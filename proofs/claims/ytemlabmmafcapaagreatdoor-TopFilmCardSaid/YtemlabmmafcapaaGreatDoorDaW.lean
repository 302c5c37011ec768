/- What stands in a frame of a film: conform.at. (printed by gen_daw.py) -/
import Derived.Test.YtemlabmmafcapaaGreatDoorDfP
import Derived.Test.YtemlabmmafcapaaGreatDoorDfQ
import Derived.Test.YtemlabmmafcapaaGreatDoorSlp
import Derived.Test.YtemlabmmafcapaaGreatDoorGrd
namespace Go.Proofs.YtemlabmmafcapaaGreatDoor
open Go.RowKit

theorem evErr_zero2 {nm : Bool} {kind len inn out pos bf : Int} {k : Nat} (h : evErr nm kind len inn out pos bf k = 0) : (kind = 1 ∧ len = 0) ∨ (kind = 2 ∧ 1 ≤ len ∧ len ≤ 250 ∧ len ≤ out - inn ∧ k ≠ 0) := by
  unfold evErr at h
  split at h; · cases h
  split at h; · cases h
  split at h; · cases h
  split at h; · cases h
  split at h; · cases h
  omega
theorem only_drew {b : Nat} {w w' : World} (h : Only b w w') : Only b w w'.drew := by obtain ⟨h1, h2, h3, h4, h5⟩ := h; exact ⟨h1, h2, h3, h4, h5⟩
theorem fres_eq {op : BinOp} {x y : Nat} (h : isNaN (fop op x y) = false) : (∀ w, fres op .f32 x y w = fop op x y) ∧ fdr op .f32 x y = 0 := by
  unfold fres fdr fop at *
  cases hf : floatBits op .f32 x y with
  | none => rw [hf] at h; simp at h; exact absurd h (by decide)
  | some r =>
    rw [hf] at h
    simp only [Option.map_some, Option.getD_some] at h ⊢
    have hr : isNaN r = false := by
      cases hr : isNaN r
      · rfl
      · rw [canon_of_nan hr] at h; exact absurd h (by decide)
    exact ⟨fun w => (canon_of_num hr).symm, by simp⟩
def shA (k : Nat) (s : Sh) : Value := .agg #[.int .i64 (k : Int), .string s.reel, .int .i64 s.fr, .string s.src, .int .i64 s.sf, .float .f32 s.share]
/-- What at answers. -/
def atR (es : List Ev) (f : Int) : Value := match atK es f with
  | none => .tuple #[.agg #[.int .i64 0, .string ⟨#[]⟩, .int .i64 0, .string ⟨#[]⟩, .int .i64 0, .float .f32 0], .int .i64 11]
  | some k => .tuple #[shA k (shOf es f k), .int .i64 0]
theorem atR_none {es : List Ev} {f : Int} (h : ∀ j, j < es.length → hit es f j = false) : atR es f = .tuple #[.agg #[.int .i64 0, .string ⟨#[]⟩, .int .i64 0, .string ⟨#[]⟩, .int .i64 0, .float .f32 0], .int .i64 11] := by unfold atR; rw [atK_none h]
theorem hit_no {es : List Ev} {f : Int} {k : Nat} (h : f < (es.getD k default).pos ∨ (es.getD k default).stop ≤ f) : hit es f k = false := by
  unfold hit
  rcases h with h | h
  · rw [decide_eq_false (by omega), Bool.false_and]
  · rw [decide_eq_false (show ¬ f < (es.getD k default).stop by omega), Bool.and_false]
theorem atR_one {es : List Ev} {f : Int} {k : Nat} (hk : k < es.length) (hl : ∀ j, j < k → hit es f j = false) (h1 : (es.getD k default).pos ≤ f) (h2 : f < (es.getD k default).stop) (h3 : (es.getD k default).len ≤ f - (es.getD k default).pos) :
    atR es f = .tuple #[.agg #[.int .i64 (k : Int), .string (es.getD k default).reel, .int .i64 ((es.getD k default).inn + f - (es.getD k default).pos), .string ⟨#[]⟩, .int .i64 0, .float .f32 1065353216], .int .i64 0] := by
  unfold atR
  rw [atK_some hk (by unfold hit; rw [decide_eq_true h1, decide_eq_true h2]; rfl) hl]
  show Value.tuple #[shA k (shOf es f k), _] = _
  unfold shOf
  simp only []
  rw [if_neg (by omega)]
  rfl
theorem atR_two {es : List Ev} {f : Int} {k : Nat} (hk : k < es.length) (hl : ∀ j, j < k → hit es f j = false) (h1 : (es.getD k default).pos ≤ f) (h2 : f < (es.getD k default).stop) (h3 : f - (es.getD k default).pos < (es.getD k default).len) :
    atR es f = .tuple #[.agg #[.int .i64 (k : Int), .string (es.getD k default).reel, .int .i64 ((es.getD k default).inn + f - (es.getD k default).pos), .string (es.getD (k - 1) default).reel, .int .i64 ((es.getD (k - 1) default).inn + f - (es.getD (k - 1) default).pos), .float .f32 (shareB (f - (es.getD k default).pos) (es.getD k default).len)], .int .i64 0] := by
  unfold atR
  rw [atK_some hk (by unfold hit; rw [decide_eq_true h1, decide_eq_true h2]; rfl) hl]
  show Value.tuple #[shA k (shOf es f k), _] = _
  unfold shOf
  simp only []
  rw [if_pos h3]
  rfl
set_option maxRecDepth 100000 in
set_option maxHeartbeats 8000000 in
theorem conform_at (title : ByteArray) (rate : Int) (v : Value) (es : List Ev) (f : Int) (W : World) (hs : SlE W v es) (hok : evsTo es es.length = 0) :
    Calls Tryz.prog 24 #[.agg #[.string title, .int .i64 rate, v], .int .i64 f] W fun e w' => e = .returned (atR es f) ∧ Below W.heap.size W w' := by
  obtain ⟨a, c, rfl, hmax, hform⟩ := hs
  unfold maxLen at hmax
  obtain ⟨n, hn⟩ : ∃ n, n = es.length := ⟨_, rfl⟩
  have hzero := evsTo_zero es es.length hok
  rw [← hn] at hmax hzero ⊢
  have Hzero := Lib.hid hzero
  have hone := fun k (hk : k < n) => atR_one (es := es) (f := f) (k := k) (by rw [← hn]; exact hk)
  have htwo := fun k (hk : k < n) => atR_two (es := es) (f := f) (k := k) (by rw [← hn]; exact hk)
  have hnon := atR_none (es := es) (f := f)
  rw [← hn] at hnon
  have Hone := Lib.hid hone
  have Htwo := Lib.hid htwo
  have Hnon := Lib.hid hnon
  have Hn := Lib.hid hn
  generalize hres : atR es f = res at *
  clear hres hn hok hzero hone htwo hnon
  go_enter Tryz.func24, Tryz.ntmps24
  go_upto_region 1 with fail
  refine name_world ?_
  intro w0 hw0
  have x1 : Bx w0 W.heap.size 24 #[.string title, .int .i64 rate, .slice a n c] := by rw [hw0]; exact (Bx.new _ _ _).alloc _
  have x2 : Bx w0 (W.heap.size + 1) 33 #[.int .i64 0, .string ⟨#[]⟩, .int .i64 0, .string ⟨#[]⟩, .int .i64 0, .float .f32 0] := by rw [hw0]; exact Bx.at _ (by simp)
  have B : Below W.heap.size W w0 := by rw [hw0]; exact bnew (bnew (Below.refl _ W))
  clear hw0
  obtain ⟨q1, f1, l1⟩ := x1.all
  go_wp2_with fail
  go_loopw [14] (fun i wr => ∃ k : Nat, k ≤ n ∧ i = .int .i64 (k : Int) ∧ Hid (∀ j, j < k → hit es f j = false) ∧ Below W.heap.size W wr ∧ Bx wr W.heap.size 24 #[.string title, .int .i64 rate, .slice a n c] ∧ Bx wr (W.heap.size + 1) 33 #[.int .i64 0, .string ⟨#[]⟩, .int .i64 0, .string ⟨#[]⟩, .int .i64 0, .float .f32 0]) (fun i _ => n - (intOf i).toNat)
  case atStart => exact ⟨0, by omega, rfl, Lib.hid (fun j hj => by omega), B, x1, x2⟩
  case round =>
    clear x1 x2 B q1 f1 l1
    obtain ⟨k, hk, rfl, hl, hb, x1, x2⟩ := hrel
    by_cases hlt : k < n
    · rcases hform with h0 | ⟨b, o, rfl, hbl, hat⟩
      · exfalso
        have := Hn.out
        rw [h0] at this
        simp at this
        omega
      obtain ⟨c0, c1, c2, c3, c4, c5⟩ := (hat k (by rw [← Hn.out]; exact hlt)).keep hb hbl
      have hz := Hzero.out k hlt
      obtain ⟨-, -, b1, b2, b3, b4, b5, -⟩ := evErr_zero hz
      have hz2 := evErr_zero2 hz
      have hr1 := Hone.out k hlt hl.out
      have hr2 := Htwo.out k hlt hl.out
      have hno : (f < (es.getD k default).pos ∨ (es.getD k default).pos + (es.getD k default).out - (es.getD k default).inn ≤ f) → ∀ j, j < k + 1 → hit es f j = false := fun h j hj => by
        by_cases hjk : j < k
        · exact hl.out j hjk
        · obtain rfl : j = k := by omega
          exact hit_no h
      have Hat := Lib.hid hat
      unfold Ev.stop at hr1 hr2
      clear hat hz
      generalize (es.getD k default).reel = reel at c0 hr1 hr2
      generalize (es.getD k default).kind = kind at c1 hz2
      generalize (es.getD k default).len = len at c2 hr1 hr2 hz2
      generalize (es.getD k default).inn = inn at c3 hr1 hr2 hz2 b1 b2 hno
      generalize (es.getD k default).out = out at c4 hr1 hr2 hz2 b2 b3 hno
      generalize (es.getD k default).pos = pos at c5 hr1 hr2 b4 b5 hno
      have Hr1 := Lib.hid hr1
      have Hr2 := Lib.hid hr2
      have Hz2 := Lib.hid hz2
      have Hno := Lib.hid hno
      clear hr1 hr2 hz2 hno
      have hki : (k : Int) < (n : Int) := by omega
      have l27 := x2.lt
      go_upto_region 4 with fail
      refine name_world ?_
      intro w3 hw3
      have x7 : Bx w3 wr.heap.size 55 #[.string reel, .int .i64 kind, .int .i64 len, .int .i64 inn, .int .i64 out, .int .i64 pos] := by rw [hw3]; exact Bx.new _ _ _
      have hb9 : Below wr.heap.size wr w3 := by rw [hw3]; exact bnew (Below.refl _ wr)
      clear hw3 c0 c1 c2 c3 c4 c5
      replace x1 := x1.keep hb9
      replace x2 := x2.keep hb9
      replace hb := bcall hb hb9
      clear hb9
      generalize hp7 : wr.heap.size = p7 at *
      clear hp7
      obtain ⟨q7, f7, l7⟩ := x7.all
      by_cases h1 : f < pos
      · have eA : decide (f < pos) = true := decide_eq_true h1
        go_wp2_with fail
        go_quiet (fail)
        go_wp2_with fail
        go_roundw
        case rel => exact ⟨k + 1, by omega, by go_num, Lib.hid (Hno.out (.inl h1)), below_drewN hb _, x1.drewN _, x2.drewN _⟩
        case measure => simp [intOf]; omega
      have eA : decide (f < pos) = false := decide_eq_false h1
      obtain ⟨vb, hvb⟩ : ∃ vb, vb = decide (pos + (out - inn) ≤ f) := ⟨_, rfl⟩
      go_wp2_with fail
      clear q7 f7 l7
      refine wp_region_grd 12 (fun _ => false) (fun q u w' => u = [.int .i64 f, .pointer (some ⟨p7, 5, none⟩), .int .i64 pos, .bool false, .bool false, .int .i64 f, .pointer (some ⟨p7, 5, none⟩), .int .i64 pos, .agg #[.string reel, .int .i64 kind, .int .i64 len, .int .i64 inn, .int .i64 out, .int .i64 pos], .int .i64 (out - inn), .int .i64 (pos + (out - inn)), .bool vb].getD q undef) (fun _ => false) (fun w' => Below w3.heap.size w3 w') (by kernel_rfl) (by kernel_rfl) (fun _ _ _ _ _ h => h)
        (fun _ _ h e => e.trans (h.mono e.size)) (fun t u a' b' hb h => ?_) (Below.refl _ _).drew ?_ ?_ ?_
      · exact h
      · intro t op ht hlt hop
        clear hlt
        rcases (by omega : t = 0 ∨ t = 1 ∨ t = 2 ∨ t = 3 ∨ t = 4 ∨ t = 5 ∨ t = 6 ∨ t = 7 ∨ t = 8 ∨ t = 9 ∨ t = 10 ∨ t = 11) with rfl | rfl | rfl | rfl | rfl | rfl | rfl | rfl | rfl | rfl | rfl | rfl
        all_goals simp only [List.getElem?_cons_zero, List.getElem?_cons_succ, Option.some.injEq] at hop
        all_goals subst hop
        all_goals intro a wx hE hag hdep
        · refine grd_none rfl ?_
          have e0 := slot_eq (hag 1 rfl)
          exact rel_pure _ rfl rfl (by simp [go_sem, e0])
        · refine grd_none rfl ?_
          have e0 := slot_eq (hag 7 rfl)
          exact rel_pure _ rfl rfl (by simp [go_sem, e0])
        · refine grd_none rfl ?_
          have e0 := slot_eq (hdep ⟨1, .data⟩ (by simp) rfl)
          have hq := (x7.keep hE).all.1
          exact rel_pure _ rfl rfl (by simp [go_sem, e0, hq])
        · refine grd_none rfl ?_
          have e0 := slot_eq (hdep ⟨0, .data⟩ (by simp) rfl)
          have e1 := slot_eq (hdep ⟨2, .data⟩ (by simp) rfl)
          exact rel_pure _ rfl rfl (by simp [go_sem, e0, e1, eA])
        · refine grd_none rfl ?_
          have e0 := slot_eq (hdep ⟨3, .data⟩ (by simp) rfl)
          exact rel_pure _ rfl rfl (by simp [go_sem, e0])
        · refine grd_yes (j := 4) (b := false) rfl (hdep ⟨4, .guard⟩ (by simp) rfl) ?_
          have e0 := slot_eq (hag 1 rfl)
          exact rel_pure _ rfl rfl (by simp [go_sem, e0])
        · refine grd_yes (j := 4) (b := false) rfl (hdep ⟨4, .guard⟩ (by simp) rfl) ?_
          have e0 := slot_eq (hag 7 rfl)
          exact rel_pure _ rfl rfl (by simp [go_sem, e0])
        · refine grd_yes (j := 4) (b := false) rfl (hdep ⟨4, .guard⟩ (by simp) rfl) ?_
          have e0 := slot_eq (hdep ⟨6, .data⟩ (by simp) rfl)
          have hq := (x7.keep hE).all.1
          exact rel_pure _ rfl rfl (by simp [go_sem, e0, hq])
        · refine grd_yes (j := 4) (b := false) rfl (hdep ⟨4, .guard⟩ (by simp) rfl) ?_
          have e0 := slot_eq (hag 7 rfl)
          have hq := (x7.keep hE).all.1
          exact rel_pure _ rfl rfl (by simp [go_sem, e0, hq])
        · refine grd_yes (j := 4) (b := false) rfl (hdep ⟨4, .guard⟩ (by simp) rfl) ?_
          have e0 := slot_eq (hdep ⟨8, .data⟩ (by simp) rfl)
          refine rel_call (f := 15) (args := #[.agg #[.string reel, .int .i64 kind, .int .i64 len, .int .i64 inn, .int .i64 out, .int .i64 pos]]) (run_go_call Tryz.func15 (by kernel_rfl) (by kernel_rfl) _ _ _ _ _ _ _ _ _ _ (by simp [Act.eval, e0])) rfl ?_
          refine (conform_long reel kind len inn out pos wx (by omega) (by omega) (by omega)).mono ?_
          rintro e w' ⟨rfl, hbx⟩
          exact ⟨_, rfl, rfl, hbx⟩
        · refine grd_yes (j := 4) (b := false) rfl (hdep ⟨4, .guard⟩ (by simp) rfl) ?_
          have e0 := slot_eq (hdep ⟨7, .data⟩ (by simp) rfl)
          have e1 := slot_eq (hdep ⟨9, .data⟩ (by simp) rfl)
          have hw : IntKind.i64.wrap (pos + (out - inn)) = pos + (out - inn) := IntWalk.i64_in _ (by omega)
          exact rel_pure _ rfl rfl (by simp [go_sem, e0, e1, hw])
        · refine grd_yes (j := 4) (b := false) rfl (hdep ⟨4, .guard⟩ (by simp) rfl) ?_
          have e0 := slot_eq (hdep ⟨5, .data⟩ (by simp) rfl)
          have e1 := slot_eq (hdep ⟨10, .data⟩ (by simp) rfl)
          exact rel_pure _ rfl rfl (by simp [go_sem, e0, e1, hvb])
      · intro t op ht hlt; cases hlt
      intro vs wy hE hvs _
      have k4 : vs 4 = .bool false := hvs 4 (by omega)
      have k11 : vs 11 = .bool vb := hvs 11 (by omega)
      simp only [List.drop_succ_cons, List.drop_zero, putAll, dstAt, List.getElem?_toArray, List.getElem?_cons_zero, List.getElem?_cons_succ, Option.bind_some, Act.put, List.setIfInBounds_toArray, List.set_cons_zero, List.set_cons_succ, k4, k11]
      clear hvs k4 k11
      replace x1 := x1.keep hE
      replace x2 := x2.keep hE
      replace x7 := x7.keep hE
      replace hb := hb.trans (hE.mono hb.size)
      clear hE
      obtain ⟨q7, f7, l7⟩ := x7.all
      obtain ⟨q1, f1, l1⟩ := x1.all
      obtain ⟨q2, f2, l2⟩ := x2.all
      cases vb
      · have h2 : f < pos + out - inn := by have := of_decide_eq_false hvb.symm; omega
        clear hvb Hno
        go_upto_region 7 with fail
        refine name_world ?_
        intro w5 hw5
        have x8 : Bx w5 wy.heap.size 33 #[.int .i64 (k : Int), .string reel, .int .i64 (inn + f - pos), .string ⟨#[]⟩, .int .i64 0, .float .f32 1065353216] := by rw [hw5]; exact Bx.new _ _ _
        have hb9 : Below wy.heap.size wy w5 := by rw [hw5]; exact bnew (Below.refl _ _)
        have lp7 : p7 < wy.heap.size := x7.lt
        clear hw5 q7 f7 l7 q1 f1 l1 q2 f2 l2
        replace x1 := x1.keep hb9
        replace x2 := x2.keep hb9
        replace x7 := x7.keep hb9
        replace hb := bcall hb hb9
        clear hb9
        generalize hp8 : wy.heap.size = p8 at *
        clear hp8
        obtain ⟨q1, f1, l1⟩ := x1.all
        obtain ⟨q2, f2, l2⟩ := x2.all
        obtain ⟨q7, f7, l7⟩ := x7.all
        obtain ⟨q8, f8, l8⟩ := x8.all
        rcases Hz2.out with ⟨rfl, rfl⟩ | ⟨rfl, z1, z2, z3, z4⟩
        · have e3 : decide (f - pos < 0) = false := decide_eq_false (by omega)
          go_wp2_with fail
          exact bodyPost_ret (v := .tuple #[.agg #[.int .i64 (k : Int), .string reel, .int .i64 (inn + f - pos), .string ⟨#[]⟩, .int .i64 0, .float .f32 1065353216], .int .i64 0]) (by simp [results, Tryz.results24, go_sem, q2]) rfl ⟨by rw [Hr1.out (by omega) (by omega) (by omega)], bput (by omega) (bput (by omega) (bput (by omega) (bput (by omega) (bput (by omega) (bput (by omega) hb)))))⟩
        by_cases h3 : f - pos < len
        · have e3 : decide (f - pos < len) = true := decide_eq_true h3
          obtain ⟨k1, hk1⟩ : ∃ k1, k = k1 + 1 := ⟨k - 1, by omega⟩
          obtain ⟨p0, p1, p2, p3, p4, p5⟩ := (Hat.out k1 (by rw [← Hn.out]; omega)).keep hb hbl
          obtain ⟨-, -, d1, d2, d3, d4, d5, -⟩ := evErr_zero (Hzero.out k1 (by omega))
          have hr := Hr2.out (by omega) (by omega) h3
          rw [show k - 1 = k1 by omega] at hr
          generalize (es.getD k1 default).reel = reel2 at p0 hr
          generalize (es.getD k1 default).kind = kind2 at p1
          generalize (es.getD k1 default).len = len2 at p2
          generalize (es.getD k1 default).inn = inn2 at p3 d1 d2 hr
          generalize (es.getD k1 default).out = out2 at p4 d2 d3
          generalize (es.getD k1 default).pos = pos2 at p5 d4 d5 hr
          have Hr := Lib.hid hr
          have hki1 : (k : Int) - 1 = (k1 : Int) := by omega
          have hkn1 : (k1 : Int) < (n : Int) := by omega
          have Hk1 := Lib.hid hk1
          clear hr hk1
          go_upto_region 9 with fail
          refine name_world ?_
          intro w6 hw6
          have x10 : Bx w6 w5.heap.size 55 #[.string reel2, .int .i64 kind2, .int .i64 len2, .int .i64 inn2, .int .i64 out2, .int .i64 pos2] := by rw [hw6]; exact Bx.new _ _ _
          have hb9 : Below w5.heap.size w5 w6 := by rw [hw6]; exact bnew (Below.refl _ _)
          have lp8 : p8 < w5.heap.size := x8.lt
          clear hw6 q7 f7 l7 q1 f1 l1 q2 f2 l2 q8 f8 l8 p0 p1 p2 p3 p4 p5 hki1 hkn1
          replace x1 := x1.keep hb9
          replace x2 := x2.keep hb9
          replace x7 := x7.keep hb9
          replace x8 := x8.keep hb9
          replace hb := bcall hb hb9
          clear hb9
          generalize hp10 : w5.heap.size = p10 at *
          clear hp10
          obtain ⟨q8, f8, l8⟩ := x8.all
          obtain ⟨q10, f10, l10⟩ := x10.all
          go_region
          go_upto_region 10 with fail
          refine name_world ?_
          intro w7 hw7
          have on : Only p8 w6 w7 := by rw [hw7]; exact only_drew (((Only.refl p8 w6).set _ _).set _ _)
          have y8 : Bx w7 p8 33 #[.int .i64 (k : Int), .string reel, .int .i64 (inn + f - pos), .string reel2, .int .i64 (inn2 + f - pos2), .float .f32 1065353216] := by rw [hw7]; exact (x8.set 3 _).set 4 _
          clear hw7 x8 q8 f8 l8 q10 f10 l10 x10
          replace x1 := on.bx (by omega) x1
          replace x2 := on.bx (by omega) x2
          replace x7 := on.bx (by omega) x7
          replace hb := bonly hb on (by omega)
          clear on
          obtain ⟨q2, f2, l2⟩ := x2.all
          obtain ⟨q7, f7, l7⟩ := x7.all
          obtain ⟨q8, f8, l8⟩ := y8.all
          obtain ⟨⟨fa, hfa⟩, ⟨la, hla⟩⟩ : (∃ fa : Nat, f - pos + 1 = (fa : Int)) ∧ ∃ la : Nat, len + 1 = (la : Int) := ⟨⟨(f - pos + 1).toNat, by omega⟩, ⟨(len + 1).toNat, by omega⟩⟩
          obtain ⟨_, sk, sl, hsh⟩ := share_dbl (a := fa) (b := la) (by omega) (by omega) (by omega) (by omega)
          rw [← hfa, ← hla] at hsh
          obtain ⟨hfr, hfd⟩ := fres_eq (show isNaN (fop .quo (floatOfInt .f32 (f - pos + 1)) (floatOfInt .f32 (len + 1))) = false by rw [isNaN_iff, hsh]; rfl)
          clear hfa hla hsh
          rw [show fop .quo (floatOfInt .f32 (f - pos + 1)) (floatOfInt .f32 (len + 1)) = shareB (f - pos) len from rfl] at hfr
          go_upto_region 11 with fail
          refine name_world ?_
          intro w8 hw8
          have on : Only p8 w7 w8 := by rw [hw8]; exact (Only.refl p8 w7).set _ _
          replace y8 : Bx w8 p8 33 #[.int .i64 (k : Int), .string reel, .int .i64 (inn + f - pos), .string reel2, .int .i64 (inn2 + f - pos2), .float .f32 (shareB (f - pos) len)] := by rw [hw8]; exact y8.set 5 _
          clear hw8 q8 f8 l8 q7 f7 l7 q2 f2 l2
          replace x2 := on.bx (by omega) x2
          replace hb := bonly hb on (by omega)
          clear on hfr hfd
          obtain ⟨q2, f2, l2⟩ := x2.all
          obtain ⟨q8, f8, l8⟩ := y8.all
          go_wp2_with fail
          exact bodyPost_ret (v := .tuple #[.agg #[.int .i64 (k : Int), .string reel, .int .i64 (inn + f - pos), .string reel2, .int .i64 (inn2 + f - pos2), .float .f32 (shareB (f - pos) len)], .int .i64 0]) (by simp [results, Tryz.results24, go_sem, q2]) rfl ⟨by rw [Hr.out], bput (by omega) (bput (by omega) (bput (by omega) (bput (by omega) (bput (by omega) (bput (by omega) hb)))))⟩
        · have e3 : decide (f - pos < len) = false := decide_eq_false h3
          go_wp2_with fail
          exact bodyPost_ret (v := .tuple #[.agg #[.int .i64 (k : Int), .string reel, .int .i64 (inn + f - pos), .string ⟨#[]⟩, .int .i64 0, .float .f32 1065353216], .int .i64 0]) (by simp [results, Tryz.results24, go_sem, q2]) rfl ⟨by rw [Hr1.out (by omega) (by omega) (by omega)], bput (by omega) (bput (by omega) (bput (by omega) (bput (by omega) (bput (by omega) (bput (by omega) hb)))))⟩

      · have h2 : pos + (out - inn) ≤ f := of_decide_eq_true hvb.symm
        clear hvb
        go_wp2_with fail
        go_roundw
        case rel => exact ⟨k + 1, by omega, by go_num, Lib.hid (Hno.out (.inr (by omega))), hb, x1, x2⟩
        case measure => simp [intOf]; omega
    · have hkn : k = n := by omega
      subst hkn
      have hr := Hnon.out hl.out
      have Hr := Lib.hid hr
      clear hr
      obtain ⟨q1, f1, l1⟩ := x1.all
      obtain ⟨q2, f2, l2⟩ := x2.all
      go_wp2_with fail
      exact bodyPost_ret (v := .tuple #[.agg #[.int .i64 0, .string ⟨#[]⟩, .int .i64 0, .string ⟨#[]⟩, .int .i64 0, .float .f32 0], .int .i64 11]) (by simp [results, Tryz.results24, go_sem, q2]) rfl ⟨by rw [Hr.out], bput (by omega) (bput (by omega) (bput (by omega) (bput (by omega) (bput (by omega) (bput (by omega) hb)))))⟩
end Go.Proofs.YtemlabmmafcapaaGreatDoor
