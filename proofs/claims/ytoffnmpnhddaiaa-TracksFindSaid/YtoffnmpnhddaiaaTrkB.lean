/- key.Track with reach 1 over the picture of TracksFind: the first of the nine offsets with the least gap is the true one. -/
import Derived.Test.YtoffnmpnhddaiaaTrkP
import Derived.Test.YtoffnmpnhddaiaaChg
import Derived.Test.YtoffnmpnhddaiaaRgc
import Derived.BigRegion
namespace Go.Proofs.Ytoffnmpnhddaiaa
open Go.RowKit

theorem key_compared_at (fx fy sx sy ux uy dx dy : Int) (px py b : Nat) (W : World) (hux : ux = fx + sx) (huy : uy = fy + sy) (hdx : dx = 3 - (px : Int) - sx) (hdy : dy = 3 - (py : Int) - sy)
    (hx1 : -10000 ≤ fx) (hx2 : fx ≤ 10000) (hy1 : -10000 ≤ fy) (hy2 : fy ≤ 10000) (hs1 : -10 ≤ sx) (hs2 : sx ≤ 10) (ht1 : -10 ≤ sy) (ht2 : sy ≤ 10) (hpx : px ≤ 6) (hpy : py ≤ 6) (hrd : Rd W b 0 pat) :
    Calls Try.prog 125 #[.agg #[.int .i64 fx, .int .i64 fy, .int .i64 9, .int .i64 9, .slice (some ⟨b, 0, none⟩) 324 324], .agg #[.int .i64 ux, .int .i64 uy, .int .i64 9, .int .i64 9, .slice (some ⟨b, 0, none⟩) 324 324], .agg #[.int .i64 (fx + 3), .int .i64 (fy + 3), .int .i64 3, .int .i64 3], .int .i64 dx, .int .i64 dy] W fun e w' =>
      e = .returned (.float .f32 (score px py)) ∧ Below W.heap.size W w' := by
  subst hux huy hdx hdy
  exact key_compared fx fy sx sy px py b pat (patG px py) W hx1 hx2 hy1 hy2 hs1 hs2 ht1 ht2 hpx hpy pat_len hrd (fun j i c h1 h2 h3 => patG_some px py j i c hpx hpy h1 h2 h3)

theorem pat_ok (fx fy : Int) (hx1 : -10000 ≤ fx) (hx2 : fx ≤ 10000) (hy1 : -10000 ≤ fy) (hy2 : fy ≤ 10000) : checkFrame fx fy 9 9 324 = 0 :=
  checkFrame_of (checkRegion_of (by omega) (by omega) (by omega) (by omega) (by omega) (by omega) (by omega) (by omega) (by omega)) (by omega)

theorem key_checkBoth_ok (x1 y1 w1 h1 x2 y2 w2 h2 : Int) (a1 a2 : Option Addr) (n1 c1 n2 c2 : Nat) (W : World) (hn1 : n1 ≤ maxLen) (hn2 : n2 ≤ maxLen) (hc1 : checkFrame x1 y1 w1 h1 n1 = 0) (hc2 : checkFrame x2 y2 w2 h2 n2 = 0) :
    Calls Try.prog 124 #[.agg #[.int .i64 x1, .int .i64 y1, .int .i64 w1, .int .i64 h1, .slice a1 n1 c1], .agg #[.int .i64 x2, .int .i64 y2, .int .i64 w2, .int .i64 h2, .slice a2 n2 c2]] W fun e w' =>
      e = .returned (.int .i64 0) ∧ Below W.heap.size W w' := by
  go_enter Try.func124, Try.ntmps124
  go_wp2_with fail
  refine (frame_Check _ _ _ _ _ _ _ _ hn1).mono ?_
  rw [hc1]
  rintro e w3 ⟨rfl, hb1⟩
  have xb := (Bx.at (w := W.alloc (.cells #[.int .i64 x1, .int .i64 y1, .int .i64 w1, .int .i64 h1, .slice a1 n1 c1] 26)) (T := 26) (cs := #[.int .i64 x2, .int .i64 y2, .int .i64 w2, .int .i64 h2, .slice a2 n2 c2]) (W.heap.size + 1) (by simp)).keep hb1
  have B1 := bcall (bnew (bnew (Below.refl _ W))) hb1
  obtain ⟨q, f, l⟩ := xb.all
  clear hb1 hc1
  go_wp2_with fail
  refine (frame_Check _ _ _ _ _ _ _ _ hn2).mono ?_
  rw [hc2]
  rintro e w4 ⟨rfl, hb2⟩
  go_wp2_with fail
  go_ret
  exact ⟨rfl, bcall B1 hb2⟩

theorem posW_facts {s : Nat} (h : posW s = true) : FloatKind.f32.format.order s s = some .eq ∧ FloatKind.f32.format.order 0 s = some .lt ∧ FloatKind.f32.format.order s 0 = some .gt := by
  unfold posW at h
  simp only [Bool.and_eq_true, beq_iff_eq] at h
  exact ⟨h.1.1, h.1.2, h.2⟩
theorem order_zero : FloatKind.f32.format.order 0 0 = some .eq := by decide

/-- What Track has found after n of the nine offsets; t is the true one. -/
def TrkS (W : World) (pb : Nat) (sx sy : Int) (t n : Nat) (f l : Value) (wr : World) : Prop :=
  (n = 0 ∧ f = .bool false ∧ l = .float .f32 0 ∧ ∃ u v : Int, Bx wr pb 82 #[.int .i64 u, .int .i64 v]) ∨
  (0 < n ∧ n ≤ t ∧ f = .bool true ∧ (∃ s, posW s = true ∧ l = .float .f32 s) ∧ ∃ u v : Int, Bx wr pb 82 #[.int .i64 u, .int .i64 v]) ∨
  (t < n ∧ f = .bool true ∧ l = .float .f32 0 ∧ Bx wr pb 82 #[.int .i64 sx, .int .i64 sy])

/-- Track's own blocks. -/
def TrkI (W : World) (fx fy ux uy : Int) (g : Nat) (wr : World) : Prop :=
  Bx wr W.heap.size 26 #[.int .i64 fx, .int .i64 fy, .int .i64 9, .int .i64 9, .slice (some ⟨g, 0, none⟩) 324 324] ∧
  Bx wr (W.heap.size + 1) 26 #[.int .i64 ux, .int .i64 uy, .int .i64 9, .int .i64 9, .slice (some ⟨g, 0, none⟩) 324 324] ∧
  Bx wr (W.heap.size + 1 + 1) 23 #[.int .i64 (fx + 3), .int .i64 (fy + 3), .int .i64 3, .int .i64 3] ∧
  Bx wr (W.heap.size + 1 + 1 + 1) 82 #[.int .i64 0, .int .i64 0] ∧ Rd wr g 0 pat ∧ Below W.heap.size W wr

theorem TrkI.keep {W : World} {fx fy ux uy : Int} {g : Nat} {wr wx : World} (h : TrkI W fx fy ux uy g wr) (hb : Below wr.heap.size wr wx) : TrkI W fx fy ux uy g wx := by
  obtain ⟨h1, h2, h3, h4, h5, h6⟩ := h
  exact ⟨h1.keep hb, h2.keep hb, h3.keep hb, h4.keep hb, h5.keep hb, bcall h6 hb⟩
theorem TrkI.size {W : World} {fx fy ux uy : Int} {g : Nat} {wr : World} (h : TrkI W fx fy ux uy g wr) : W.heap.size + 3 < wr.heap.size := by have := h.2.2.2.1.lt; omega

theorem TrkI.put {W : World} {fx fy ux uy : Int} {g pb : Nat} {wr : World} (h : TrkI W fx fy ux uy g wr) (hpb : W.heap.size + 3 < pb) (hg : g < W.heap.size) (u v : Value) : TrkI W fx fy ux uy g ((wr.setCell ⟨pb, 0, none⟩ u).setCell ⟨pb, 1, none⟩ v) := by
  obtain ⟨h1, h2, h3, h4, h5, h6⟩ := h
  have ho := ((Only.refl pb wr).set 0 u).set 1 v
  exact ⟨ho.bx (by omega) h1, ho.bx (by omega) h2, ho.bx (by omega) h3, ho.bx (by omega) h4, ho.rd (by omega) h5, h6.trans (ho.below (by omega))⟩
theorem TrkS.keep {W : World} {pb t n : Nat} {sx sy : Int} {f l : Value} {wr wx : World} (h : TrkS W pb sx sy t n f l wr) (hb : Below wr.heap.size wr wx) : TrkS W pb sx sy t n f l wx := by
  rcases h with ⟨h1, h2, h3, u, v, h4⟩ | ⟨h1, h2, h3, h4, u, v, h5⟩ | ⟨h1, h2, h3, h4⟩
  · exact .inl ⟨h1, h2, h3, u, v, h4.keep hb⟩
  · exact .inr (.inl ⟨h1, h2, h3, h4, u, v, h5.keep hb⟩)
  · exact .inr (.inr ⟨h1, h2, h3, h4.keep hb⟩)

set_option maxRecDepth 100000 in
set_option maxHeartbeats 2000000 in
theorem key_Track_pat (fx fy sx sy ux uy : Int) (tx ty g : Nat) (W : World) (hux : ux = fx + sx) (huy : uy = fy + sy) (hx1 : -2000 ≤ fx) (hx2 : fx ≤ 2000) (hy1 : -2000 ≤ fy) (hy2 : fy ≤ 2000)
    (htx : (tx : Int) = sx + 1) (hty : (ty : Int) = sy + 1) (htx2 : tx ≤ 2) (hty2 : ty ≤ 2) (hrd : Rd W g 0 pat) :
    Calls Try.prog 58 #[.agg #[.int .i64 fx, .int .i64 fy, .int .i64 9, .int .i64 9, .slice (some ⟨g, 0, none⟩) 324 324], .agg #[.int .i64 ux, .int .i64 uy, .int .i64 9, .int .i64 9, .slice (some ⟨g, 0, none⟩) 324 324], .agg #[.int .i64 (fx + 3), .int .i64 (fy + 3), .int .i64 3, .int .i64 3], .int .i64 1] W fun e w' =>
      e = .returned (.tuple #[.agg #[.int .i64 sx, .int .i64 sy], .float .f32 0, .int .i64 0]) ∧ Below W.heap.size W w' := by
  have hm1 : (324 : Nat) ≤ maxLen := by unfold maxLen; omega
  have hgW := hrd.lt
  have hk1 := pat_ok fx fy (by omega) (by omega) (by omega) (by omega)
  have hk2 := pat_ok ux uy (by omega) (by omega) (by omega) (by omega)
  have hux1 : -3000 ≤ ux := by omega
  have hux2 : ux ≤ 3000 := by omega
  have huy1 : -3000 ≤ uy := by omega
  have huy2 : uy ≤ 3000 := by omega
  have Ht := Lib.hid (And.intro hux (And.intro huy (And.intro htx hty)))
  clear hux huy htx hty
  go_enter Try.func58, Try.ntmps58
  go_wp2_with fail
  refine name_callw ?_
  intro wb hwb
  have inv0 : TrkI W fx fy ux uy g wb := by
    rw [hwb]
    have B0 := bnew (ob := .cells #[.int .i64 0, .int .i64 0] 82) (bnew (ob := .cells #[.int .i64 (fx + 3), .int .i64 (fy + 3), .int .i64 3, .int .i64 3] 23) (bnew (ob := .cells #[.int .i64 ux, .int .i64 uy, .int .i64 9, .int .i64 9, .slice (some ⟨g, 0, none⟩) 324 324] 26) (bnew (ob := .cells #[.int .i64 fx, .int .i64 fy, .int .i64 9, .int .i64 9, .slice (some ⟨g, 0, none⟩) 324 324] 26) (Below.refl _ W))))
    refine ⟨Bx.alloc (Bx.alloc (Bx.alloc (Bx.new _ _ _) _) _) _, Bx.alloc (Bx.alloc (Bx.at _ (by simp)) _) _, Bx.alloc (Bx.at _ (by simp)) _, Bx.at _ (by simp), hrd.keep B0, B0⟩
  clear hwb
  refine (key_checkBoth_ok _ _ _ _ _ _ _ _ _ _ _ _ _ _ _ hm1 hm1 hk1 hk2).mono ?_
  rintro e w1 ⟨rfl, hb1⟩
  have inv1 := inv0.keep hb1
  clear inv0 hb1 hk1 hk2
  obtain ⟨q2, f2, l2⟩ := inv1.2.2.1.all
  go_wp2_with fail
  refine (frame_CheckRegion _ _ _ _ _).mono ?_
  rw [checkRegion_of (by omega) (by omega) (by omega) (by omega) (by omega) (by omega) (by omega) (by omega) (by omega)]
  rintro e w2 ⟨rfl, hb2⟩
  have inv2 := inv1.keep hb2
  clear inv1 hb2 q2 f2 l2
  obtain ⟨q2, f2, l2⟩ := inv2.2.2.1.all
  obtain ⟨q0, f0, l0⟩ := inv2.1.all
  go_wp2_with fail
  refine (frame_Inside _ _ _ _ _ _ _ _ _ (by omega) (by omega) (by omega) (by omega) (by omega) (by omega) (by omega) (by omega) (by omega) (by omega) (by omega) (by omega) (by omega) (by omega) (by omega) (by omega)).mono ?_
  have hin : inB (fx + 3) (fy + 3) 3 3 fx fy 9 9 = true := by unfold inB; simp; omega
  rw [hin]
  clear hin
  rintro e w3 ⟨rfl, hb3⟩
  have inv3 := inv2.keep hb3
  clear inv2 hb3 q2 f2 l2 q0 f0 l0
  go_wp2_with fail
  refine name_alloc ?_
  intro wb hwb
  have inv4 : TrkI W fx fy ux uy g (wb.alloc (.cells #[.int .i64 0, .int .i64 0] 82)) := by rw [hwb]; exact inv3.keep (bnew (Below.refl _ _))
  have hpb := inv3.size
  have st0 : TrkS W w3.heap.size sx sy (3 * ty + tx) (3 * 0) (.bool false) (.float .f32 0) (wb.alloc (.cells #[.int .i64 0, .int .i64 0] 82)) := .inl ⟨rfl, rfl, rfl, 0, 0, by rw [hwb]; exact Bx.new _ _ _⟩
  generalize w3.heap.size = pb at *
  clear hwb inv3
  refine name_world ?_
  intro wc hwc
  rw [← hwc] at inv4 st0
  clear hwc
  go_loopw [13, 15, 16] (fun f l s wr => ∃ a : Nat, a ≤ 3 ∧ s = .int .i64 ((a : Int) - 1) ∧ TrkI W fx fy ux uy g wr ∧ TrkS W pb sx sy (3 * ty + tx) (3 * a) f l wr) (fun _ _ s _ => (2 - intOf s).toNat)
  case atStart => exact ⟨0, by omega, by simp, inv4, st0⟩
  case round =>
    clear inv4 st0
    obtain ⟨a, ha, rfl, hI, hS⟩ := hrel
    by_cases hlt : a < 3
    · have hai : decide ((a : Int) - 1 ≤ 1) = true := by simp; omega
      go_wp2_with fail
      go_loopw [13, 15, 17] (fun f l s wr => ∃ b : Nat, b ≤ 3 ∧ s = .int .i64 ((b : Int) - 1) ∧ TrkI W fx fy ux uy g wr ∧ TrkS W pb sx sy (3 * ty + tx) (3 * a + b) f l wr) (fun _ _ s _ => (2 - intOf s).toNat)
      case atStart => exact ⟨0, by omega, by simp, hI, hS⟩
      case round =>
        clear hI hS
        obtain ⟨b, hb, rfl, hI, hS⟩ := hrel
        by_cases hlt2 : b < 3
        · have hbi : decide ((b : Int) - 1 ≤ 1) = true := by simp; omega
          obtain ⟨q2, f2, l2⟩ := hI.2.2.1.all
          obtain ⟨q1, f1, l1⟩ := hI.2.1.all
          go_wp2_with fail
          refine name_callw ?_
          intro wd hwd
          have hIS : TrkI W fx fy ux uy g wd ∧ TrkS W pb sx sy (3 * ty + tx) (3 * a + b) u13 u15 wd := by
            have hE : Below wr.heap.size wr wd := by
              rw [hwd]
              repeat (refine Below.set' (by simp) ?_)
              exact (Below.refl _ _).alloc (Nat.le_refl _) _
            exact ⟨hI.keep hE, hS.keep hE⟩
          obtain ⟨hI1, hS1⟩ := hIS
          clear hwd hI hS q1 f1 l1 q2 f2 l2
          have e := Ht.out
          refine (frame_Inside _ _ _ _ _ _ _ _ _ (by omega) (by omega) (by omega) (by omega) (by omega) (by omega) (by omega) (by omega) (by omega) (by omega) (by omega) (by omega) (by omega) (by omega) (by omega) (by omega)).mono ?_
          have hin : inB (fx + 3 + ((b : Int) - 1)) (fy + 3 + ((a : Int) - 1)) 3 3 ux uy 9 9 = true := by unfold inB; simp; omega
          rw [hin]
          clear hin e
          rintro e w5 ⟨rfl, hb5⟩
          have hI2 := hI1.keep hb5
          have hS2 := hS1.keep hb5
          clear hI1 hS1 hb5
          obtain ⟨q0, f0, l0⟩ := hI2.1.all
          obtain ⟨q1, f1, l1⟩ := hI2.2.1.all
          obtain ⟨q2, f2, l2⟩ := hI2.2.2.1.all
          go_wp2_with fail
          have e := Ht.out
          refine (key_compared_at fx fy sx sy _ _ _ _ (3 + b - tx) (3 + a - ty) g _ (by omega) (by omega) (by omega) (by omega) (by omega) (by omega) (by omega) (by omega) (by omega) (by omega) (by omega) (by omega) (by omega) (by omega) hI2.2.2.2.2.1).mono ?_
          have hsc : (3 * a + b = 3 * ty + tx ∧ score (3 + b - tx) (3 + a - ty) = 0) ∨ (3 * a + b ≠ 3 * ty + tx ∧ posW (score (3 + b - tx) (3 + a - ty)) = true) := by
            by_cases hh : b = tx ∧ a = ty
            · exact .inl ⟨by omega, by rw [show 3 + b - tx = 3 by omega, show 3 + a - ty = 3 by omega]; exact score_here⟩
            · exact .inr ⟨by omega, score_pos _ _ (by omega) (by omega) (by omega)⟩
          have hxy : 3 * a + b = 3 * ty + tx → (b : Int) - 1 = sx ∧ (a : Int) - 1 = sy := by omega
          clear e
          generalize score (3 + b - tx) (3 + a - ty) = sc at *
          rintro e w6 ⟨rfl, hb6⟩
          have hI3 := hI2.keep hb6
          have hS3 := hS2.keep hb6
          clear hI2 hS2 hb6 q0 f0 l0 q1 f1 l1 q2 f2 l2
          have Hxy := Lib.hid hxy
          clear hxy
          have hoz := order_zero
          rcases hsc with ⟨hmt, rfl⟩ | ⟨hmt, hpos⟩
          · have Hmt := Lib.hid hmt
            clear hmt
            rcases hS3 with ⟨h1, rfl, rfl, u, v, xp⟩ | ⟨h1, h2, rfl, ⟨s, hs, rfl⟩, u, v, xp⟩ | ⟨h1, rfl, rfl, xp⟩
            · clear h1
              obtain ⟨qp, fp, lp⟩ := xp.all
              go_wp2_with fail
              go_roundw
              case rel =>
                obtain ⟨e1, e2⟩ := Hxy.out Hmt.out
                have xp2 := (xp.set 0 (.int .i64 ((b : Int) - 1))).set 1 (.int .i64 ((a : Int) - 1))
                rw [e1, e2] at xp2 ⊢
                exact ⟨b + 1, by omega, by go_num, TrkI.put hI3 hpb hgW _ _, .inr (.inr ⟨by have := Hmt.out; omega, rfl, rfl, by simpa using xp2⟩)⟩
              case measure => simp [intOf]; omega
            · obtain ⟨qp, fp, lp⟩ := xp.all
              obtain ⟨o1, o2, o3⟩ := posW_facts hs
              clear hs
              go_wp2_with fail
              go_roundw
              case rel =>
                obtain ⟨e1, e2⟩ := Hxy.out Hmt.out
                have xp2 := (xp.set 0 (.int .i64 ((b : Int) - 1))).set 1 (.int .i64 ((a : Int) - 1))
                rw [e1, e2] at xp2 ⊢
                exact ⟨b + 1, by omega, by go_num, TrkI.put hI3 hpb hgW _ _, .inr (.inr ⟨by have := Hmt.out; omega, rfl, rfl, by simpa using xp2⟩)⟩
              case measure => simp [intOf]; omega
            · exact absurd Hmt.out (by omega)
          · obtain ⟨o1, o2, o3⟩ := posW_facts hpos
            have Hpos := Lib.hid hpos
            clear hpos Hxy
            rcases hS3 with ⟨h1, rfl, rfl, u, v, xp⟩ | ⟨h1, h2, rfl, ⟨s, hs, rfl⟩, u, v, xp⟩ | ⟨h1, rfl, rfl, xp⟩
            · have H1 := Lib.hid h1
              clear h1
              obtain ⟨qp, fp, lp⟩ := xp.all
              go_wp2_with fail
              go_roundw
              case rel =>
                have xp2 := (xp.set 0 (.int .i64 ((b : Int) - 1))).set 1 (.int .i64 ((a : Int) - 1))
                exact ⟨b + 1, by omega, by go_num, TrkI.put hI3 hpb hgW _ _, .inr (.inl ⟨by omega, by have := H1.out; omega, rfl, ⟨_, Hpos.out, rfl⟩, _, _, by simpa using xp2⟩)⟩
              case measure => simp [intOf]; omega
            · obtain ⟨qp, fp, lp⟩ := xp.all
              have Hs := Lib.hid hs
              clear hs
              cases hlss : (FloatKind.f32.format.order sc s == some .lt)
              · go_wp2_with fail
                go_roundw
                case rel => exact ⟨b + 1, by omega, by go_num, hI3, .inr (.inl ⟨by omega, by omega, rfl, ⟨_, Hs.out, rfl⟩, _, _, xp⟩)⟩
                case measure => simp [intOf]; omega
              · go_wp2_with fail
                go_roundw
                case rel =>
                  have xp2 := (xp.set 0 (.int .i64 ((b : Int) - 1))).set 1 (.int .i64 ((a : Int) - 1))
                  exact ⟨b + 1, by omega, by go_num, TrkI.put hI3 hpb hgW _ _, .inr (.inl ⟨by omega, by omega, rfl, ⟨_, Hpos.out, rfl⟩, _, _, by simpa using xp2⟩)⟩
                case measure => simp [intOf]; omega
            · go_wp2_with fail
              go_roundw
              case rel => exact ⟨b + 1, by omega, by go_num, hI3, .inr (.inr ⟨by omega, rfl, rfl, xp⟩)⟩
              case measure => simp [intOf]; omega
        · have hb3 : b = 3 := by omega
          subst hb3
          have hbi : decide (((3 : Nat) : Int) - 1 ≤ 1) = false := by decide
          go_wp2_with fail
          go_roundw
          case rel => exact ⟨a + 1, by omega, by go_num, hI, by rw [show 3 * (a + 1) = 3 * a + 3 by omega]; exact hS⟩
          case measure => simp [intOf]; omega
    · have ha3 : a = 3 := by omega
      subst ha3
      have hai : decide (((3 : Nat) : Int) - 1 ≤ 1) = false := by decide
      rcases hS with ⟨h1, _⟩ | ⟨_, h2, _⟩ | ⟨_, rfl, rfl, xp⟩
      · omega
      · omega
      obtain ⟨qp, fp, lp⟩ := xp.all
      obtain ⟨qr, fr, lr⟩ := hI.2.2.2.1.all
      go_wp2_with fail
      have yr := ((hI.2.2.2.1.set 0 (.int .i64 sx)).set 1 (.int .i64 sy)).all.1
      refine bodyPost_ret (v := .tuple #[.agg #[.int .i64 sx, .int .i64 sy], .float .f32 0, .int .i64 0]) (by simp [results, Try.results58, go_sem, yr 0, yr 1]) rfl ⟨rfl, bput (by omega) (bput (by omega) hI.2.2.2.2.2)⟩
end Go.Proofs.Ytoffnmpnhddaiaa
