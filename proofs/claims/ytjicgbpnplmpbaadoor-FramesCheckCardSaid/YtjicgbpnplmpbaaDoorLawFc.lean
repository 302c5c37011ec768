/- FramesCheck, walked. -/
import Derived.Test.YtjicgbpnplmpbaaDoorCutA
import Derived.Test.YtjicgbpnplmpbaaDoorCutD
import Derived.Test.YtjicgbpnplmpbaaDoorFcA
import Derived.Test.YtjicgbpnplmpbaaDoorMatO
import Derived.Test.YtjicgbpnplmpbaaDoorSame
import Derived.Test.YtjicgbpnplmpbaaDoorGrd
namespace Go.Proofs.YtjicgbpnplmpbaaDoor
open Go.RowKit

@[go_sem] theorem run_eq_pix0 (w : World) : (Op.equalIn 10000 32 (.agg #[.float .f32 0, .float .f32 0, .float .f32 0, .float .f32 0]) (.agg #[.float .f32 0, .float .f32 0, .float .f32 0, .float .f32 0])).run Tryd.prog w = .ok true w := by kernel_rfl
theorem law_exact_same (a : Nat) (w : World) : Calls Tryd.prog 11 #[.float .f32 a, .float .f32 a] w fun e w' => e = .returned (.bool true) ∧ w = w' :=
  (law_exact a a w).mono fun _ _ ⟨h1, h2⟩ => ⟨by rw [h1]; simp, h2⟩
theorem clean_made (xs : List Nat) (M : Nat) : ((List.range (4 * M)).map fun k => canon (xs.getD k 0)) = madeL (fun p k => xs.getD (4 * p + k) 0) (4 * M) := by
  unfold madeL
  apply List.map_congr_left
  intro k _
  show canon (xs.getD k 0) = canon (xs.getD (4 * (k / 4) + k % 4) 0)
  rw [show 4 * (k / 4) + k % 4 = k by omega]
theorem frame_Same_is (x y w h : Int) (b1 o1 c1 b2 o2 c2 n : Nat) (xs ys : List Nat) (W : World) (hn : n ≤ 1000000) (hxs : xs.length = n) (hys : ys.length = n) (h1 : Rd W b1 o1 xs) (h2 : Rd W b2 o2 ys) (hs : allSame n xs ys = true) :
    Calls Tryd.prog 18 #[.agg #[.int .i64 x, .int .i64 y, .int .i64 w, .int .i64 h, .slice (some ⟨b1, o1, none⟩) n c1], .agg #[.int .i64 x, .int .i64 y, .int .i64 w, .int .i64 h, .slice (some ⟨b2, o2, none⟩) n c2]] W fun e w' =>
      e = .returned (.bool true) ∧ Below W.heap.size W w' := by
  have h := frame_Same_in x y w h b1 o1 c1 b2 o2 c2 n xs ys W hn hxs hys h1 h2
  rw [hs] at h
  exact h

set_option maxRecDepth 100000 in
set_option maxHeartbeats 16000000 in
theorem law_FramesCheck (x y w h : Int) (a : Option Addr) (n c : Nat) (xs : List Nat) (a2 : Option Addr) (n2 c2 : Nat) (ss : List Nat) (W : World) (hs1 : Sl W (.slice a n c) xs) (hc1 : n ≤ c) (hn1 : n ≤ maxLen) (hs2 : Sl W (.slice a2 n2 c2) ss) (hc2 : n2 ≤ c2) :
    Calls Tryd.prog 3 #[.agg #[.int .i64 x, .int .i64 y, .int .i64 w, .int .i64 h, .slice a n c], .slice a2 n2 c2] W fun e w' =>
      e = .returned (.bool true) ∧ Below W.heap.size W w' := by
  obtain ⟨k, hk⟩ : ∃ k, checkFrame x y w h n = k := ⟨_, rfl⟩
  have hkk : (k != k) = false := by simp
  have hke : (k == k) = true := by simp
  have Hk := Lib.hid hk
  clear hk
  go_enter Tryd.func3, Tryd.ntmps3
  go_upto_region 3 with (go_at_call 7; refine (law_landed _).mono ?_; rintro e w' ⟨rfl, rfl⟩)
  refine name_world ?_
  intro v0 hwa
  have x2 : Bx v0 W.heap.size 26 #[.int .i64 x, .int .i64 y, .int .i64 w, .int .i64 h, .slice a n c] := by rw [hwa]; exact Bx.new _ _ _
  have B : Below W.heap.size W v0 := by rw [hwa]; exact bnew (Below.refl _ W)
  clear hwa
  obtain ⟨qx2, fx2, lx2⟩ := x2.all
  go_wp2_with fail
  refine (ref_FrameError _ _ _ _ _ _ _ _).mono ?_
  rw [Hk.out]
  rintro e v1 ⟨rfl, hb⟩
  clear qx2 fx2 lx2
  replace x2 := x2.keep hb
  replace B := bcall B hb
  clear hb
  obtain ⟨qx2, fx2, lx2⟩ := x2.all
  go_wp2_with fail
  refine (frame_Check _ _ _ _ _ _ _ _ hn1).mono ?_
  rw [Hk.out]
  rintro e v2 ⟨rfl, hb⟩
  clear qx2 fx2 lx2
  replace x2 := x2.keep hb
  replace B := bcall B hb
  clear hb
  obtain ⟨qx2, fx2, lx2⟩ := x2.all
  go_wp2_with fail
  by_cases h4 : n2 < 4
  · have hd4 : decide ((n2 : Int) < 4) = true := by simp; omega
    refine (frame_Take_bad _ _ _ _ h4).mono ?_
    rintro e v3 ⟨rfl, hb⟩
    clear qx2 fx2 lx2
    replace x2 := x2.keep hb
    replace B := bcall B hb
    clear hb
    obtain ⟨qx2, fx2, lx2⟩ := x2.all
    go_wp2_with fail
    refine nm_call ?_
    intro v4 hwn
    have x6 : Bx v4 v3.heap.size 32 #[.float .f32 0, .float .f32 0, .float .f32 0, .float .f32 0] := by rw [hwn]; exact Bx.new _ _ _
    have hb : Below v3.heap.size v3 v4 := by rw [hwn]; exact bnew (Below.refl _ _)
    clear qx2 fx2 lx2
    replace x2 := x2.keep hb
    replace B := bcall B hb
    clear hwn hb
    by_cases hk0 : k = 0
    · subst hk0
      have hck := Hk.out
      have hreg : checkRegion x y w h = 0 := by
        unfold checkFrame at hck
        split at hck
        · assumption
        · rename_i h0; exact absurd hck h0
      have hn4 : (n : Int) = 4 * w * h := by
        unfold checkFrame at hck
        rw [if_pos hreg] at hck
        split at hck
        · assumption
        · cases hck
      obtain ⟨r1, r2, r3, r4, r5, r6, r7, r8, r9⟩ := checkRegion_ok hreg
      obtain ⟨M, hM, rfl⟩ := four_of hn4
      obtain ⟨w, rfl⟩ : ∃ q : Nat, w = q := ⟨w.toNat, by omega⟩
      obtain ⟨h, rfl⟩ : ∃ q : Nat, h = q := ⟨h.toNat, by omega⟩
      have hMn : M = w * h := by exact_mod_cast hM
      have hM1 : 0 < M := by rw [hMn]; exact Nat.mul_pos (by omega) (by omega)
      have hM2 : M ≤ 16384 := by omega
      obtain ⟨b, o, rfl, hxs, hrd⟩ := hs1.some2 (by omega)
      replace hrd := hrd.keep B
      have hd := Lib.hid (And.intro hck (And.intro hM (And.intro hMn hxs)))
      clear hck hn4 hM hMn hxs hs1 hreg
      refine (frame_Clean_ok x y w h b o (4 * M) c M xs _ hd.out.1 hd.out.2.1 (by omega) rfl (by omega) (by omega) hd.out.2.2.2 hrd).mono ?_
      rintro e v5 ⟨gr, rfl, hgr, row, hb⟩
      replace x2 := x2.keep hb
      replace x6 := x6.keep hb
      replace hrd := hrd.keep hb
      replace B := bcall B hb
      clear hb
      rw [clean_made] at row
      have rr := row.rd
      clear row
      obtain ⟨qx2, fx2, lx2⟩ := x2.all
      obtain ⟨qx6, fx6, lx6⟩ := x6.all
      go_wp2_with fail
      have hgx : gr < v5.heap.size := rr.lt
      refine name_world ?_
      intro v6 hwn
      have x8 : Bx v6 v5.heap.size 26 #[.int .i64 x, .int .i64 y, .int .i64 (w : Int), .int .i64 (h : Int), .slice (some ⟨gr, 0, none⟩) (4 * M) (4 * M)] := by rw [hwn]; exact Bx.new _ _ _
      have hb : Below v5.heap.size v5 v6 := by rw [hwn]; exact bnew (Below.refl _ _)
      clear qx2 fx2 lx2 qx6 fx6 lx6
      replace x2 := x2.keep hb
      replace x6 := x6.keep hb
      replace hrd := hrd.keep hb
      replace rr := rr.keep hb
      replace B := bcall B hb
      clear hwn hb
      generalize v5.heap.size = p8 at *
      refine wp_region_grd 13 (fun _ => false) (fun q u w' => if q = 5 then ∃ g c', u = .agg #[.int .i64 x, .int .i64 y, .int .i64 (w : Int), .int .i64 (h : Int), .slice (some ⟨g, 0, none⟩) (4 * M) c'] ∧ v6.heap.size ≤ g ∧ Rd w' g 0 (madeL (fun p k => xs.getD (4 * p + k) 0) (4 * M)) else u = [.int .i64 0, .bool true, .bool true, .agg #[.int .i64 x, .int .i64 y, .int .i64 (w : Int), .int .i64 (h : Int), .slice (some ⟨gr, 0, none⟩) (4 * M) (4 * M)], .agg #[.int .i64 x, .int .i64 y, .int .i64 (w : Int), .int .i64 (h : Int), .slice (some ⟨b, o, none⟩) (4 * M) c], undef, .bool true, .bool true, .bool true, .agg #[.int .i64 x, .int .i64 y, .int .i64 (w : Int), .int .i64 (h : Int), .slice (some ⟨b, o, none⟩) (4 * M) c], .agg #[.int .i64 x, .int .i64 y, .int .i64 (w : Int), .int .i64 (h : Int), .slice (some ⟨gr, 0, none⟩) (4 * M) (4 * M)], .bool true, .bool true].getD q undef) (fun _ => false) (fun w' => Below v6.heap.size v6 w') (by kernel_rfl) (by kernel_rfl) (fun _ _ _ _ _ h => h)
        (fun _ _ h e => e.trans (h.mono e.size)) (fun t u a' b' hb h => ?_) (Below.refl _ _).drew ?_ ?_ ?_
      · split
        · rename_i h4
          rw [if_pos h4] at h
          obtain ⟨g, c', e1, e2, e3⟩ := h
          exact ⟨g, c', e1, e2, e3.keep hb⟩
        · rename_i h4
          rw [if_neg h4] at h
          exact h
      · intro t op ht hlt hop
        clear hlt
        rcases (by omega : t = 0 ∨ t = 1 ∨ t = 2 ∨ t = 3 ∨ t = 4 ∨ t = 5 ∨ t = 6 ∨ t = 7 ∨ t = 8 ∨ t = 9 ∨ t = 10 ∨ t = 11 ∨ t = 12) with rfl | rfl | rfl | rfl | rfl | rfl | rfl | rfl | rfl | rfl | rfl | rfl | rfl
        all_goals simp only [List.getElem?_cons_zero, List.getElem?_cons_succ, Option.some.injEq] at hop
        all_goals subst hop
        all_goals intro a wx hE hag hdep
        · refine grd_none rfl ?_
          have e0 := slot_eq (hag 9 rfl)
          exact rel_pure _ rfl rfl (by simp [go_sem, e0])
        · refine grd_none rfl ?_
          have e0 := slot_eq (hdep ⟨0, .data⟩ (by simp) rfl)
          exact rel_pure _ rfl rfl (by simp [go_sem, e0])
        · refine grd_none rfl ?_
          have e0 := slot_eq (hdep ⟨1, .data⟩ (by simp) rfl)
          exact rel_pure _ rfl rfl (by simp [go_sem, e0])
        · refine grd_yes (j := 2) (b := true) rfl (hdep ⟨2, .guard⟩ (by simp) rfl) ?_
          have e0 := slot_eq (hag 8 rfl)
          have hq := (x8.keep hE).all.1
          exact rel_pure _ rfl rfl (by simp [go_sem, e0, hq])
        · refine grd_yes (j := 2) (b := true) rfl (hdep ⟨2, .guard⟩ (by simp) rfl) ?_
          have e0 := slot_eq (hag 2 rfl)
          have hq := (x2.keep hE).all.1
          exact rel_pure _ rfl rfl (by simp [go_sem, e0, hq])
        · refine grd_yes (j := 2) (b := true) rfl (hdep ⟨2, .guard⟩ (by simp) rfl) ?_
          have e0 := slot_eq (hdep ⟨4, .data⟩ (by simp) rfl)
          refine rel_call (f := 17) (args := #[.agg #[.int .i64 x, .int .i64 y, .int .i64 (w : Int), .int .i64 (h : Int), .slice (some ⟨b, o, none⟩) (4 * M) c]]) (run_go_call Tryd.func17 (by kernel_rfl) (by kernel_rfl) _ _ _ _ _ _ _ _ _ _ (by simp [Act.eval, e0])) rfl ?_
          refine (ref_Clean x y w h M b o (4 * M) c xs wx (by omega) (by omega) (by omega) (by omega) (by omega) (by omega) (by omega) (by omega) hd.out.2.2.1 (by omega) rfl hc1 hd.out.2.2.2 (hrd.keep hE)).mono ?_
          rintro e w' ⟨g, c', rfl, hcc, hg, hrd', hb⟩
          exact ⟨_, rfl, ⟨g, c', rfl, Nat.le_trans hE.size hg, hrd'⟩, hb⟩
        · refine grd_yes (j := 2) (b := true) rfl (hdep ⟨2, .guard⟩ (by simp) rfl) ?_
          have e0 := slot_eq (hdep ⟨3, .data⟩ (by simp) rfl)
          obtain ⟨g, c', e1, hg, hrd'⟩ := hdep ⟨5, .data⟩ (by simp) rfl
          have e1 := slot_eq e1
          refine rel_call (f := 16) (args := #[.agg #[.int .i64 x, .int .i64 y, .int .i64 (w : Int), .int .i64 (h : Int), .slice (some ⟨gr, 0, none⟩) (4 * M) (4 * M)], .agg #[.int .i64 x, .int .i64 y, .int .i64 (w : Int), .int .i64 (h : Int), .slice (some ⟨g, 0, none⟩) (4 * M) c']]) (run_go_call Tryd.func16 (by kernel_rfl) (by kernel_rfl) _ _ _ _ _ _ _ _ _ _ (by simp [Act.eval, e0, e1])) rfl ?_
          refine (ref_SameFrame _ _ _ _ _ _ _ _ _ _ _ _ wx (by omega) (madeL_len _ _) (rr.keep hE) hrd').mono ?_
          rintro e w' ⟨rfl, hb⟩
          exact ⟨_, rfl, rfl, hb⟩
        · refine grd_none rfl ?_
          have e0 := slot_eq (hdep ⟨2, .data⟩ (by simp) rfl)
          have e1 := slot_eq (hdep ⟨6, .data⟩ (by simp) rfl)
          exact rel_pure _ rfl rfl (by simp [go_sem, e0, e1])
        · refine grd_none rfl ?_
          have e0 := slot_eq (hdep ⟨7, .data⟩ (by simp) rfl)
          exact rel_pure _ rfl rfl (by simp [go_sem, e0])
        · refine grd_yes (j := 8) (b := true) rfl (hdep ⟨8, .guard⟩ (by simp) rfl) ?_
          have e0 := slot_eq (hag 2 rfl)
          have hq := (x2.keep hE).all.1
          exact rel_pure _ rfl rfl (by simp [go_sem, e0, hq])
        · refine grd_yes (j := 8) (b := true) rfl (hdep ⟨8, .guard⟩ (by simp) rfl) ?_
          have e0 := slot_eq (hag 8 rfl)
          have hq := (x8.keep hE).all.1
          exact rel_pure _ rfl rfl (by simp [go_sem, e0, hq])
        · refine grd_yes (j := 8) (b := true) rfl (hdep ⟨8, .guard⟩ (by simp) rfl) ?_
          have e0 := slot_eq (hdep ⟨9, .data⟩ (by simp) rfl)
          have e1 := slot_eq (hdep ⟨10, .data⟩ (by simp) rfl)
          refine rel_call (f := 18) (args := #[.agg #[.int .i64 x, .int .i64 y, .int .i64 (w : Int), .int .i64 (h : Int), .slice (some ⟨b, o, none⟩) (4 * M) c], .agg #[.int .i64 x, .int .i64 y, .int .i64 (w : Int), .int .i64 (h : Int), .slice (some ⟨gr, 0, none⟩) (4 * M) (4 * M)]]) (run_go_call Tryd.func18 (by kernel_rfl) (by kernel_rfl) _ _ _ _ _ _ _ _ _ _ (by simp [Act.eval, e0, e1])) rfl ?_
          refine (frame_Same_is _ _ _ _ _ _ _ _ _ _ _ xs _ wx (by omega) hd.out.2.2.2 (madeL_len _ _) (hrd.keep hE) (rr.keep hE) (allSame_of fun k hk => by rw [← clean_made]; simp [hk, canon_idem])).mono ?_
          rintro e w' ⟨rfl, hb⟩
          exact ⟨_, rfl, rfl, hb⟩
        · refine grd_none rfl ?_
          have e0 := slot_eq (hdep ⟨8, .data⟩ (by simp) rfl)
          have e1 := slot_eq (hdep ⟨11, .data⟩ (by simp) rfl)
          exact rel_pure _ rfl rfl (by simp [go_sem, e0, e1])
      · intro t op ht hlt; cases hlt
      · intro vs wz hE hvs _
        have k12 : vs 12 = .bool true := hvs 12 (by omega)
        simp only [List.drop_succ_cons, List.drop_zero, putAll, dstAt, List.getElem?_toArray, List.getElem?_cons_zero, List.getElem?_cons_succ, Option.bind_some, Act.put, List.setIfInBounds_toArray, List.set_cons_zero, List.set_cons_succ, k12]
        clear hvs k12
        replace B := B.trans (hE.mono B.size)
        go_wp2_with fail
        go_ret
        exact ⟨rfl, B⟩
    · have hkb : (k != 0) = true := by simpa using hk0
      refine (frame_Clean_bad _ _ _ _ k _ _ _ _ hn1 Hk.out hk0).mono ?_
      rintro e v5 ⟨rfl, hb⟩
      replace x2 := x2.keep hb
      replace x6 := x6.keep hb
      replace B := bcall B hb
      clear hb
      obtain ⟨qx2, fx2, lx2⟩ := x2.all
      obtain ⟨qx6, fx6, lx6⟩ := x6.all
      go_wp2_with fail
      refine nm_call ?_
      intro v6 hwn
      have x8 : Bx v6 v5.heap.size 26 #[.int .i64 0, .int .i64 0, .int .i64 0, .int .i64 0, .slice none 0 0] := by rw [hwn]; exact Bx.new _ _ _
      have hb : Below v5.heap.size v5 v6 := by rw [hwn]; exact bnew (Below.refl _ _)
      clear qx2 fx2 lx2 qx6 fx6 lx6
      replace x2 := x2.keep hb
      replace x6 := x6.keep hb
      replace B := bcall B hb
      clear hwn hb
      refine (frame_At_bad _ _ _ _ k _ _ _ _ _ _ hn1 Hk.out hk0).mono ?_
      rintro e v7 ⟨rfl, hb⟩
      replace x2 := x2.keep hb
      replace x6 := x6.keep hb
      replace x8 := x8.keep hb
      replace B := bcall B hb
      clear hb
      obtain ⟨qx2, fx2, lx2⟩ := x2.all
      obtain ⟨qx6, fx6, lx6⟩ := x6.all
      obtain ⟨qx8, fx8, lx8⟩ := x8.all
      go_wp2_with fail
      refine nm_call ?_
      intro v8 hwn
      have x10 : Bx v8 v7.heap.size 32 #[.float .f32 0, .float .f32 0, .float .f32 0, .float .f32 0] := by rw [hwn]; exact Bx.new _ _ _
      have hb : Below v7.heap.size v7 v8 := by rw [hwn]; exact bnew (Below.refl _ _)
      clear qx2 fx2 lx2 qx6 fx6 lx6 qx8 fx8 lx8
      replace x2 := x2.keep hb
      replace x6 := x6.keep hb
      replace x8 := x8.keep hb
      replace B := bcall B hb
      clear hwn hb
      refine (frame_Print_bad _ _ _ _ k _ _ _ _ hn1 Hk.out hk0).mono ?_
      rintro e v9 ⟨rfl, hb⟩
      replace x2 := x2.keep hb
      replace x6 := x6.keep hb
      replace x8 := x8.keep hb
      replace x10 := x10.keep hb
      replace B := bcall B hb
      clear hb
      obtain ⟨qx2, fx2, lx2⟩ := x2.all
      obtain ⟨qx6, fx6, lx6⟩ := x6.all
      obtain ⟨qx8, fx8, lx8⟩ := x8.all
      obtain ⟨qx10, fx10, lx10⟩ := x10.all
      go_wp2_with fail
      refine (frame_Total_bad _ _ _ _ k _ _ _ _ hn1 Hk.out hk0).mono ?_
      rintro e v10 ⟨rfl, hb⟩
      clear qx2 fx2 lx2 qx6 fx6 lx6 qx8 fx8 lx8 qx10 fx10 lx10
      replace x2 := x2.keep hb
      replace x6 := x6.keep hb
      replace x8 := x8.keep hb
      replace x10 := x10.keep hb
      replace B := bcall B hb
      clear hb
      obtain ⟨qx2, fx2, lx2⟩ := x2.all
      obtain ⟨qx6, fx6, lx6⟩ := x6.all
      obtain ⟨qx8, fx8, lx8⟩ := x8.all
      obtain ⟨qx10, fx10, lx10⟩ := x10.all
      go_wp2_with fail
      go_ret
      exact ⟨rfl, bnew B⟩
  · have hd4 : decide ((n2 : Int) < 4) = false := by simp; omega
    obtain ⟨b2, o2, rfl, hss, hr2⟩ := hs2.some2 (by omega)
    replace hr2 := hr2.keep B
    refine (frame_Take_ok b2 o2 n2 c2 ss _ (by omega) hc2 hss hr2).mono ?_
    rintro e v3 ⟨rfl, hb⟩
    clear qx2 fx2 lx2
    replace x2 := x2.keep hb
    replace hr2 := hr2.keep hb
    replace B := bcall B hb
    clear hb
    obtain ⟨qx2, fx2, lx2⟩ := x2.all
    go_upto_region 10 with fail
    refine name_world ?_
    intro v4 hwn
    have x6 : Bx v4 v3.heap.size 32 #[.float .f32 (ss.getD 0 0), .float .f32 (ss.getD 1 0), .float .f32 (ss.getD 2 0), .float .f32 (ss.getD 3 0)] := by rw [hwn]; exact Bx.new _ _ _
    have hb : Below v3.heap.size v3 v4 := by rw [hwn]; exact bnew (Below.refl _ _)
    clear qx2 fx2 lx2
    replace x2 := x2.keep hb
    replace hr2 := hr2.keep hb
    replace B := bcall B hb
    clear hwn hb
    have s0 : v4.cell? ⟨b2, o2, none⟩ = some (.float .f32 (ss.getD 0 0)) := hr2.cell 0 (by omega)
    have s1 : v4.cell? ⟨b2, o2 + 1, none⟩ = some (.float .f32 (ss.getD 1 0)) := hr2.cell 1 (by omega)
    have s2 : v4.cell? ⟨b2, o2 + 2, none⟩ = some (.float .f32 (ss.getD 2 0)) := hr2.cell 2 (by omega)
    have s3 : v4.cell? ⟨b2, o2 + 3, none⟩ = some (.float .f32 (ss.getD 3 0)) := hr2.cell 3 (by omega)
    have hb2 : b2 < v4.heap.size := hr2.lt
    have hi0 : 0 < n2 := by omega
    have hi1 : 1 < n2 := by omega
    have hi2 : 2 < n2 := by omega
    have hi3 : 3 < n2 := by omega
    obtain ⟨qx2, fx2, lx2⟩ := x2.all
    obtain ⟨qx6, fx6, lx6⟩ := x6.all
    refine wp_region_all (fun z : BW v4.heap.size v4 => z.w) (by kernel_rfl) (by kernel_rfl) (BW.start _ _) rfl ?_
    repeat (go_big_quiet_step ((go_at_call 11; exact BW.call_same _ (law_exact_same _ _))))
    refine wpQuiet_nil ?_
    intro z
    clear qx2 fx2 lx2 qx6 fx6 lx6
    clear s0 s1 s2 s3 hb2
    replace x2 := x2.keep z.below
    replace x6 := x6.keep z.below
    replace hr2 := hr2.keep z.below
    replace B := bcall B z.below
    generalize z.w = vz at *
    clear z
    obtain ⟨qx2, fx2, lx2⟩ := x2.all
    obtain ⟨qx6, fx6, lx6⟩ := x6.all
    go_wp2_with fail
    by_cases hk0 : k = 0
    · subst hk0
      have hck := Hk.out
      have hreg : checkRegion x y w h = 0 := by
        unfold checkFrame at hck
        split at hck
        · assumption
        · rename_i h0; exact absurd hck h0
      have hn4 : (n : Int) = 4 * w * h := by
        unfold checkFrame at hck
        rw [if_pos hreg] at hck
        split at hck
        · assumption
        · cases hck
      obtain ⟨r1, r2, r3, r4, r5, r6, r7, r8, r9⟩ := checkRegion_ok hreg
      obtain ⟨M, hM, rfl⟩ := four_of hn4
      obtain ⟨w, rfl⟩ : ∃ q : Nat, w = q := ⟨w.toNat, by omega⟩
      obtain ⟨h, rfl⟩ : ∃ q : Nat, h = q := ⟨h.toNat, by omega⟩
      have hMn : M = w * h := by exact_mod_cast hM
      have hM1 : 0 < M := by rw [hMn]; exact Nat.mul_pos (by omega) (by omega)
      have hM2 : M ≤ 16384 := by omega
      obtain ⟨b, o, rfl, hxs, hrd⟩ := hs1.some2 (by omega)
      replace hrd := hrd.keep B
      have hd := Lib.hid (And.intro hck (And.intro hM (And.intro hMn hxs)))
      clear hck hn4 hM hMn hxs hs1 hreg
      refine (frame_Clean_ok x y w h b o (4 * M) c M xs _ hd.out.1 hd.out.2.1 (by omega) rfl (by omega) (by omega) hd.out.2.2.2 hrd).mono ?_
      rintro e v5 ⟨gr, rfl, hgr, row, hb⟩
      clear qx2 fx2 lx2 qx6 fx6 lx6
      replace x2 := x2.keep hb
      replace x6 := x6.keep hb
      replace hr2 := hr2.keep hb
      replace hrd := hrd.keep hb
      replace B := bcall B hb
      clear hb
      rw [clean_made] at row
      have rr := row.rd
      clear row
      obtain ⟨qx2, fx2, lx2⟩ := x2.all
      obtain ⟨qx6, fx6, lx6⟩ := x6.all
      go_wp2_with fail
      have hgx : gr < v5.heap.size := rr.lt
      refine name_world ?_
      intro v6 hwn
      have x8 : Bx v6 v5.heap.size 26 #[.int .i64 x, .int .i64 y, .int .i64 (w : Int), .int .i64 (h : Int), .slice (some ⟨gr, 0, none⟩) (4 * M) (4 * M)] := by rw [hwn]; exact Bx.new _ _ _
      have hb : Below v5.heap.size v5 v6 := by rw [hwn]; exact bnew (Below.refl _ _)
      clear qx2 fx2 lx2 qx6 fx6 lx6
      replace x2 := x2.keep hb
      replace x6 := x6.keep hb
      replace hr2 := hr2.keep hb
      replace hrd := hrd.keep hb
      replace rr := rr.keep hb
      replace B := bcall B hb
      clear hwn hb
      generalize v5.heap.size = p8 at *
      refine wp_region_grd 13 (fun _ => false) (fun q u w' => if q = 5 then ∃ g c', u = .agg #[.int .i64 x, .int .i64 y, .int .i64 (w : Int), .int .i64 (h : Int), .slice (some ⟨g, 0, none⟩) (4 * M) c'] ∧ v6.heap.size ≤ g ∧ Rd w' g 0 (madeL (fun p k => xs.getD (4 * p + k) 0) (4 * M)) else u = [.int .i64 0, .bool true, .bool true, .agg #[.int .i64 x, .int .i64 y, .int .i64 (w : Int), .int .i64 (h : Int), .slice (some ⟨gr, 0, none⟩) (4 * M) (4 * M)], .agg #[.int .i64 x, .int .i64 y, .int .i64 (w : Int), .int .i64 (h : Int), .slice (some ⟨b, o, none⟩) (4 * M) c], undef, .bool true, .bool true, .bool true, .agg #[.int .i64 x, .int .i64 y, .int .i64 (w : Int), .int .i64 (h : Int), .slice (some ⟨b, o, none⟩) (4 * M) c], .agg #[.int .i64 x, .int .i64 y, .int .i64 (w : Int), .int .i64 (h : Int), .slice (some ⟨gr, 0, none⟩) (4 * M) (4 * M)], .bool true, .bool true].getD q undef) (fun _ => false) (fun w' => Below v6.heap.size v6 w') (by kernel_rfl) (by kernel_rfl) (fun _ _ _ _ _ h => h)
        (fun _ _ h e => e.trans (h.mono e.size)) (fun t u a' b' hb h => ?_) (Below.refl _ _).drew ?_ ?_ ?_
      · split
        · rename_i h4
          rw [if_pos h4] at h
          obtain ⟨g, c', e1, e2, e3⟩ := h
          exact ⟨g, c', e1, e2, e3.keep hb⟩
        · rename_i h4
          rw [if_neg h4] at h
          exact h
      · intro t op ht hlt hop
        clear hlt
        rcases (by omega : t = 0 ∨ t = 1 ∨ t = 2 ∨ t = 3 ∨ t = 4 ∨ t = 5 ∨ t = 6 ∨ t = 7 ∨ t = 8 ∨ t = 9 ∨ t = 10 ∨ t = 11 ∨ t = 12) with rfl | rfl | rfl | rfl | rfl | rfl | rfl | rfl | rfl | rfl | rfl | rfl | rfl
        all_goals simp only [List.getElem?_cons_zero, List.getElem?_cons_succ, Option.some.injEq] at hop
        all_goals subst hop
        all_goals intro a wx hE hag hdep
        · refine grd_none rfl ?_
          have e0 := slot_eq (hag 9 rfl)
          exact rel_pure _ rfl rfl (by simp [go_sem, e0])
        · refine grd_none rfl ?_
          have e0 := slot_eq (hdep ⟨0, .data⟩ (by simp) rfl)
          exact rel_pure _ rfl rfl (by simp [go_sem, e0])
        · refine grd_none rfl ?_
          have e0 := slot_eq (hdep ⟨1, .data⟩ (by simp) rfl)
          exact rel_pure _ rfl rfl (by simp [go_sem, e0])
        · refine grd_yes (j := 2) (b := true) rfl (hdep ⟨2, .guard⟩ (by simp) rfl) ?_
          have e0 := slot_eq (hag 8 rfl)
          have hq := (x8.keep hE).all.1
          exact rel_pure _ rfl rfl (by simp [go_sem, e0, hq])
        · refine grd_yes (j := 2) (b := true) rfl (hdep ⟨2, .guard⟩ (by simp) rfl) ?_
          have e0 := slot_eq (hag 2 rfl)
          have hq := (x2.keep hE).all.1
          exact rel_pure _ rfl rfl (by simp [go_sem, e0, hq])
        · refine grd_yes (j := 2) (b := true) rfl (hdep ⟨2, .guard⟩ (by simp) rfl) ?_
          have e0 := slot_eq (hdep ⟨4, .data⟩ (by simp) rfl)
          refine rel_call (f := 17) (args := #[.agg #[.int .i64 x, .int .i64 y, .int .i64 (w : Int), .int .i64 (h : Int), .slice (some ⟨b, o, none⟩) (4 * M) c]]) (run_go_call Tryd.func17 (by kernel_rfl) (by kernel_rfl) _ _ _ _ _ _ _ _ _ _ (by simp [Act.eval, e0])) rfl ?_
          refine (ref_Clean x y w h M b o (4 * M) c xs wx (by omega) (by omega) (by omega) (by omega) (by omega) (by omega) (by omega) (by omega) hd.out.2.2.1 (by omega) rfl hc1 hd.out.2.2.2 (hrd.keep hE)).mono ?_
          rintro e w' ⟨g, c', rfl, hcc, hg, hrd', hb⟩
          exact ⟨_, rfl, ⟨g, c', rfl, Nat.le_trans hE.size hg, hrd'⟩, hb⟩
        · refine grd_yes (j := 2) (b := true) rfl (hdep ⟨2, .guard⟩ (by simp) rfl) ?_
          have e0 := slot_eq (hdep ⟨3, .data⟩ (by simp) rfl)
          obtain ⟨g, c', e1, hg, hrd'⟩ := hdep ⟨5, .data⟩ (by simp) rfl
          have e1 := slot_eq e1
          refine rel_call (f := 16) (args := #[.agg #[.int .i64 x, .int .i64 y, .int .i64 (w : Int), .int .i64 (h : Int), .slice (some ⟨gr, 0, none⟩) (4 * M) (4 * M)], .agg #[.int .i64 x, .int .i64 y, .int .i64 (w : Int), .int .i64 (h : Int), .slice (some ⟨g, 0, none⟩) (4 * M) c']]) (run_go_call Tryd.func16 (by kernel_rfl) (by kernel_rfl) _ _ _ _ _ _ _ _ _ _ (by simp [Act.eval, e0, e1])) rfl ?_
          refine (ref_SameFrame _ _ _ _ _ _ _ _ _ _ _ _ wx (by omega) (madeL_len _ _) (rr.keep hE) hrd').mono ?_
          rintro e w' ⟨rfl, hb⟩
          exact ⟨_, rfl, rfl, hb⟩
        · refine grd_none rfl ?_
          have e0 := slot_eq (hdep ⟨2, .data⟩ (by simp) rfl)
          have e1 := slot_eq (hdep ⟨6, .data⟩ (by simp) rfl)
          exact rel_pure _ rfl rfl (by simp [go_sem, e0, e1])
        · refine grd_none rfl ?_
          have e0 := slot_eq (hdep ⟨7, .data⟩ (by simp) rfl)
          exact rel_pure _ rfl rfl (by simp [go_sem, e0])
        · refine grd_yes (j := 8) (b := true) rfl (hdep ⟨8, .guard⟩ (by simp) rfl) ?_
          have e0 := slot_eq (hag 2 rfl)
          have hq := (x2.keep hE).all.1
          exact rel_pure _ rfl rfl (by simp [go_sem, e0, hq])
        · refine grd_yes (j := 8) (b := true) rfl (hdep ⟨8, .guard⟩ (by simp) rfl) ?_
          have e0 := slot_eq (hag 8 rfl)
          have hq := (x8.keep hE).all.1
          exact rel_pure _ rfl rfl (by simp [go_sem, e0, hq])
        · refine grd_yes (j := 8) (b := true) rfl (hdep ⟨8, .guard⟩ (by simp) rfl) ?_
          have e0 := slot_eq (hdep ⟨9, .data⟩ (by simp) rfl)
          have e1 := slot_eq (hdep ⟨10, .data⟩ (by simp) rfl)
          refine rel_call (f := 18) (args := #[.agg #[.int .i64 x, .int .i64 y, .int .i64 (w : Int), .int .i64 (h : Int), .slice (some ⟨b, o, none⟩) (4 * M) c], .agg #[.int .i64 x, .int .i64 y, .int .i64 (w : Int), .int .i64 (h : Int), .slice (some ⟨gr, 0, none⟩) (4 * M) (4 * M)]]) (run_go_call Tryd.func18 (by kernel_rfl) (by kernel_rfl) _ _ _ _ _ _ _ _ _ _ (by simp [Act.eval, e0, e1])) rfl ?_
          refine (frame_Same_is _ _ _ _ _ _ _ _ _ _ _ xs _ wx (by omega) hd.out.2.2.2 (madeL_len _ _) (hrd.keep hE) (rr.keep hE) (allSame_of fun k hk => by rw [← clean_made]; simp [hk, canon_idem])).mono ?_
          rintro e w' ⟨rfl, hb⟩
          exact ⟨_, rfl, rfl, hb⟩
        · refine grd_none rfl ?_
          have e0 := slot_eq (hdep ⟨8, .data⟩ (by simp) rfl)
          have e1 := slot_eq (hdep ⟨11, .data⟩ (by simp) rfl)
          exact rel_pure _ rfl rfl (by simp [go_sem, e0, e1])
      · intro t op ht hlt; cases hlt
      · intro vs wz hE hvs _
        have k12 : vs 12 = .bool true := hvs 12 (by omega)
        simp only [List.drop_succ_cons, List.drop_zero, putAll, dstAt, List.getElem?_toArray, List.getElem?_cons_zero, List.getElem?_cons_succ, Option.bind_some, Act.put, List.setIfInBounds_toArray, List.set_cons_zero, List.set_cons_succ, k12]
        clear hvs k12
        replace B := B.trans (hE.mono B.size)
        go_wp2_with fail
        go_ret
        exact ⟨rfl, B⟩
    · have hkb : (k != 0) = true := by simpa using hk0
      refine (frame_Clean_bad _ _ _ _ k _ _ _ _ hn1 Hk.out hk0).mono ?_
      rintro e v5 ⟨rfl, hb⟩
      clear qx2 fx2 lx2 qx6 fx6 lx6
      replace x2 := x2.keep hb
      replace x6 := x6.keep hb
      replace hr2 := hr2.keep hb
      replace B := bcall B hb
      clear hb
      obtain ⟨qx2, fx2, lx2⟩ := x2.all
      obtain ⟨qx6, fx6, lx6⟩ := x6.all
      go_wp2_with fail
      refine nm_call ?_
      intro v6 hwn
      have x8 : Bx v6 v5.heap.size 26 #[.int .i64 0, .int .i64 0, .int .i64 0, .int .i64 0, .slice none 0 0] := by rw [hwn]; exact Bx.new _ _ _
      have hb : Below v5.heap.size v5 v6 := by rw [hwn]; exact bnew (Below.refl _ _)
      clear qx2 fx2 lx2 qx6 fx6 lx6
      replace x2 := x2.keep hb
      replace x6 := x6.keep hb
      replace hr2 := hr2.keep hb
      replace B := bcall B hb
      clear hwn hb
      refine (frame_At_bad _ _ _ _ k _ _ _ _ _ _ hn1 Hk.out hk0).mono ?_
      rintro e v7 ⟨rfl, hb⟩
      replace x2 := x2.keep hb
      replace x6 := x6.keep hb
      replace x8 := x8.keep hb
      replace hr2 := hr2.keep hb
      replace B := bcall B hb
      clear hb
      obtain ⟨qx2, fx2, lx2⟩ := x2.all
      obtain ⟨qx6, fx6, lx6⟩ := x6.all
      obtain ⟨qx8, fx8, lx8⟩ := x8.all
      go_wp2_with fail
      refine nm_call ?_
      intro v8 hwn
      have x10 : Bx v8 v7.heap.size 32 #[.float .f32 0, .float .f32 0, .float .f32 0, .float .f32 0] := by rw [hwn]; exact Bx.new _ _ _
      have hb : Below v7.heap.size v7 v8 := by rw [hwn]; exact bnew (Below.refl _ _)
      clear qx2 fx2 lx2 qx6 fx6 lx6 qx8 fx8 lx8
      replace x2 := x2.keep hb
      replace x6 := x6.keep hb
      replace x8 := x8.keep hb
      replace hr2 := hr2.keep hb
      replace B := bcall B hb
      clear hwn hb
      refine (frame_Print_bad _ _ _ _ k _ _ _ _ hn1 Hk.out hk0).mono ?_
      rintro e v9 ⟨rfl, hb⟩
      replace x2 := x2.keep hb
      replace x6 := x6.keep hb
      replace x8 := x8.keep hb
      replace x10 := x10.keep hb
      replace hr2 := hr2.keep hb
      replace B := bcall B hb
      clear hb
      obtain ⟨qx2, fx2, lx2⟩ := x2.all
      obtain ⟨qx6, fx6, lx6⟩ := x6.all
      obtain ⟨qx8, fx8, lx8⟩ := x8.all
      obtain ⟨qx10, fx10, lx10⟩ := x10.all
      go_wp2_with fail
      refine (frame_Total_bad _ _ _ _ k _ _ _ _ hn1 Hk.out hk0).mono ?_
      rintro e v10 ⟨rfl, hb⟩
      clear qx2 fx2 lx2 qx6 fx6 lx6 qx8 fx8 lx8 qx10 fx10 lx10
      replace x2 := x2.keep hb
      replace x6 := x6.keep hb
      replace x8 := x8.keep hb
      replace x10 := x10.keep hb
      replace hr2 := hr2.keep hb
      replace B := bcall B hb
      clear hb
      obtain ⟨qx2, fx2, lx2⟩ := x2.all
      obtain ⟨qx6, fx6, lx6⟩ := x6.all
      obtain ⟨qx8, fx8, lx8⟩ := x8.all
      obtain ⟨qx10, fx10, lx10⟩ := x10.all
      go_wp2_with fail
      go_ret
      exact ⟨rfl, bnew B⟩
end Go.Proofs.YtjicgbpnplmpbaaDoor
