/- The first key frame behind a frame (slices.IndexFunc, dyeref1.BetweenFrames$1); dyeref1.div. (printed by gen_kfj.py) -/
import Derived.Test.YtfkiljhjiogdlaaKfP
namespace Go.Proofs.Ytfkiljhjiogdlaa
open Go.RowKit

set_option maxRecDepth 100000 in
set_option maxHeartbeats 2000000 in
theorem ref_behind (kfr kease kkind : Int) (kX kY kWd kH kS : Nat) (kpa : Option Addr) (kpn kpc : Nat) (kout : Bool) (f : Int) {p : Nat} {T : TypeId} (W : World) (hp : Bx W p T #[.int .i64 f]) :
    Calls Try.prog 39 #[.agg #[.int .i64 kfr, .int .i64 kease, .int .i64 kkind, .float .f32 kX, .float .f32 kY, .float .f32 kWd, .float .f32 kH, .float .f32 kS, .slice kpa kpn kpc, .bool kout], .pointer (some ⟨p, 0, none⟩)] W fun e w' => e = .returned (.bool (decide (f < kfr))) ∧ Below W.heap.size W w' := by
  cases h1 : decide (f < kfr)
  all_goals
    go_enter Try.func39, Try.ntmps39
    go_upto_region 1 with fail
    refine name_world ?_
    intro w0 hw0
    have x2 : Bx w0 W.heap.size 44 #[.int .i64 kfr, .int .i64 kease, .int .i64 kkind, .float .f32 kX, .float .f32 kY, .float .f32 kWd, .float .f32 kH, .float .f32 kS, .slice kpa kpn kpc, .bool kout] := by rw [hw0]; exact Bx.new _ _ _
    have B : Below W.heap.size W w0 := by rw [hw0]; exact bnew (Below.refl _ W)
    have hp0 := hp.keep B
    clear hw0
    obtain ⟨q2, f2, l2⟩ := x2.all
    obtain ⟨qp, fp, lp⟩ := hp0.all
    go_wp2_with fail
    go_ret
    exact ⟨rfl, B⟩

set_option maxRecDepth 100000 in
set_option maxHeartbeats 4000000 in
theorem index_behind (v : Value) (ks : List Kf) {p : Nat} {T : TypeId} (f : Int) (W : World) (hs : SlK W v ks) (hn : ks.length ≤ 100) (hp : Bx W p T #[.int .i64 f])
    (hm : ∀ k, k < ks.length → 0 < k → (ks.getD (k - 1) default).fr < (ks.getD k default).fr) :
    Calls Try.prog 38 #[v, .func (.func 39) #[] #[.pointer (some ⟨p, 0, none⟩)]] W fun e w' => ∃ i, IsIdx ks f i ∧ e = .returned (.int .i64 (if i < ks.length then (i : Int) else -1)) ∧ Below W.heap.size W w' := by
  clear hm
  obtain ⟨a, c, rfl, -, hform, -⟩ := hs
  obtain ⟨n, hnn⟩ : ∃ n, n = ks.length := ⟨_, rfl⟩
  rw [← hnn] at hn ⊢
  have Hn := Lib.hid hnn
  have hat : Hid (0 < n → ∃ b o, a = some ⟨b, o, none⟩ ∧ b < W.heap.size ∧ ∀ k, k < n → KfAt W b (o + k * 10) (ks.getD k default)) := Lib.hid fun h => by
    rcases hform with h0 | h1
    · exfalso; rw [hnn, h0] at h; simp at h
    · rw [← hnn] at h1; exact h1
  clear hform hnn
  go_enter Try.func38, Try.ntmps38
  go_wp2_with fail
  go_loopw [8] (fun i wr => ∃ k : Nat, k ≤ n ∧ i = .int .i64 (k : Int) ∧ Hid (∀ j, j < k → (ks.getD j default).fr ≤ f) ∧ Below W.heap.size W wr) (fun i _ => n - (intOf i).toNat)
  case atStart => exact ⟨0, by omega, rfl, Lib.hid fun j hj => by omega, Below.refl _ _⟩
  case round =>
    obtain ⟨k, hk, rfl, hz, B⟩ := hrel
    by_cases hlt : k < n
    · obtain ⟨b, o, rfl, hbl, hat1⟩ := hat.out (by omega)
      obtain ⟨a0, a1, a2, a3, a4, a5, a6, a7, a8, a9⟩ := (hat1 k hlt).keep B hbl
      unfold Kf.pv at a8
      clear hat1
      have hki : (k : Int) < (n : Int) := by omega
      have hyes : Hid (f < (ks.getD k default).fr → IsIdx ks f k) := Lib.hid fun h => ⟨by rw [← Hn.out]; exact hk, hz.out, fun _ => h⟩
      have hno : Hid (¬ f < (ks.getD k default).fr → ∀ j, j < k + 1 → (ks.getD j default).fr ≤ f) := Lib.hid fun h j hj => by
        rcases Nat.lt_or_eq_of_le (Nat.le_of_lt_succ hj) with h2 | rfl
        · exact hz.out j h2
        · omega
      generalize (ks.getD k default).fr = kfr at *
      generalize (ks.getD k default).ease = kease at *
      generalize (ks.getD k default).kind = kkind at *
      generalize (ks.getD k default).X = kX at *
      generalize (ks.getD k default).Y = kY at *
      generalize (ks.getD k default).Wd = kWd at *
      generalize (ks.getD k default).H = kH at *
      generalize (ks.getD k default).S = kS at *
      generalize (ks.getD k default).pa = kpa at *
      generalize (ks.getD k default).pc = kpc at *
      generalize (ks.getD k default).ps.length = kpn at *
      generalize (ks.getD k default).out = kout at *
      go_wp2_with fail
      refine (ref_behind kfr kease kkind kX kY kWd kH kS kpa kpn kpc kout f _ (hp.keep B)).mono ?_
      clear a0 a1 a2 a3 a4 a5 a6 a7 a8 a9
      by_cases hb : f < kfr
      · rw [decide_eq_true hb]
        rintro e w1 ⟨rfl, hb1⟩
        replace B := bcall B hb1
        have hi := Lib.hid (hyes.out hb)
        clear hb1 hyes hno hz hb
        go_wp2_with fail
        go_ret
        exact ⟨k, hi.out, by rw [if_pos hlt]; rfl, B⟩
      · rw [decide_eq_false hb]
        rintro e w1 ⟨rfl, hb1⟩
        replace B := bcall B hb1
        have hz2 := Lib.hid (hno.out (by omega))
        clear hb1 hyes hno hz hb
        go_wp2_with fail
        go_roundw
        case rel => exact ⟨k + 1, by omega, by go_num, hz2, B⟩
        case measure => simp [intOf]; omega
    · obtain rfl : k = n := by omega
      have hi := Lib.hid (show IsIdx ks f k from ⟨by rw [← Hn.out]; exact Nat.le_refl _, hz.out, fun h => by have := Hn.out; omega⟩)
      clear hz
      go_wp2_with fail
      go_ret
      exact ⟨k, hi.out, by rw [if_neg (by omega)]; rfl, B⟩

theorem ref_div (a b r1 r2 r3 R : Nat) (w : World) (h1 : floatToFloatBits .f32 a .f64 = some r1) (h2 : floatToFloatBits .f32 b .f64 = some r2) (h3 : floatBits .quo .f64 r1 r2 = some r3) (h4 : floatToFloatBits .f64 r3 .f32 = some R) :
    Calls Try.prog 40 #[.float .f32 a, .float .f32 b] w fun e w' => e = .returned (.float .f32 R) ∧ w = w' := by
  have c1 := fun w => run_convert_float_float (P := Try.prog) w 22 109 .f32 .f64 a r1 (by kernel_rfl) Try.underlying109 h1
  have c2 := fun w => run_convert_float_float (P := Try.prog) w 22 109 .f32 .f64 b r2 (by kernel_rfl) Try.underlying109 h2
  have c3 := fun w => run_convert_float_float (P := Try.prog) w 109 22 .f64 .f32 r3 R (by kernel_rfl) Try.underlying22 h4
  have q1 : ∀ w, fres .quo .f64 r1 r2 w = r3 := fun w => by unfold fres; rw [h3]
  have q2 : fdr .quo .f64 r1 r2 = 0 := by unfold fdr; rw [h3]; rfl
  clear h1 h2 h3 h4
  go_enter Try.func40, Try.ntmps40
  go_wp2_with fail
  go_ret
  exact ⟨rfl, rfl⟩
theorem ref_share {fa fb f : Int} (h0 : 0 ≤ fa) (h1 : fa < f) (h2 : f < fb) (h3 : fb ≤ 16777216) (w : World) :
    Calls Try.prog 40 #[.float .f32 (floatOfInt .f32 (f - fa)), .float .f32 (floatOfInt .f32 (fb - fa))] w fun e w' => e = .returned (.float .f32 (fop .quo (floatOfInt .f32 (f - fa)) (floatOfInt .f32 (fb - fa)))) ∧ w = w' := by
  obtain ⟨a, ha⟩ : ∃ a : Nat, f - fa = (a : Int) := ⟨(f - fa).toNat, by omega⟩
  obtain ⟨b, hb⟩ : ∃ b : Nat, fb - fa = (b : Int) := ⟨(fb - fa).toNat, by omega⟩
  obtain ⟨r1, r2, r3, g1, g2, g3, g4⟩ := (share_dbl' (a := a) (b := b) (by omega) (by omega) (by omega) (by omega)).1
  rw [ha, hb]
  exact ref_div _ _ r1 r2 r3 _ w g1 g2 g3 g4
end Go.Proofs.Ytfkiljhjiogdlaa
