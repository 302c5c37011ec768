/- NeutralIsNothing, walked: for any list of grades and any pixel the law returns true. (printed by gen_lawnu.py) -/
import Derived.Test.YticekgnmiaidjaaGreatDoorNuM
import Derived.Test.YticekgnmiaidjaaGreatDoorNuN
import Derived.Test.YticekgnmiaidjaaGreatDoorNuO
namespace Go.Proofs.YticekgnmiaidjaaGreatDoor
open Go.RowKit Go.Lib

theorem rd4 {w : World} {p a b c c4 : Nat} (h : Bx w p 25 #[.float .f32 a, .float .f32 b, .float .f32 c, .float .f32 c4]) : Rd w p 0 [a, b, c, c4] := by
  refine ⟨h.lt, fun k hk => ?_⟩
  have hk : k < 4 := hk
  rw [h.all.1, Nat.zero_add]
  rcases (by omega : k = 0 ∨ k = 1 ∨ k = 2 ∨ k = 3) with rfl | rfl | rfl | rfl <;> rfl
theorem lenX {X : List GX} {gs : List Gd} {n : Nat} (h : gsX X = gs) (hn : gs.length = n) : X.length = n := by
  rw [← hn, ← h]; simp [gsX]
theorem tidy_mem {gs : List Gd} {g : Gd} (h : g ∈ tidyG gs) : g ∈ gs := (List.mem_filter.1 h).1
set_option maxRecDepth 100000 in
set_option maxHeartbeats 16000000 in
theorem law_Neutral (v : Value) (gs : List Gd) (a b c c4 : Nat) (W : World) (E : EnvF W) (hS : SlG W v gs) (hw : ∀ g ∈ gs, GdW g) (ha : a < 4294967296) (hb : b < 4294967296) (hc : c < 4294967296) :
    Calls Tryz.prog 3 #[v, .agg #[.float .f32 a, .float .f32 b, .float .f32 c, .float .f32 c4]] W fun e w' => e = .returned (.bool true) ∧ Below W.heap.size W w' := by
  have HE := Lib.hid E
  have HS := Lib.hid hS
  have HWd := Lib.hid (And.intro hw (And.intro ha (And.intro hb hc)))
  obtain ⟨a0, c0, rfl, _⟩ := hS
  obtain ⟨n, hnn⟩ : ∃ n, gs.length = n := ⟨_, rfl⟩
  have HN := Lib.hid hnn
  have HSn : Hid (SlG W (.slice a0 n c0) gs) := Lib.hid (by rw [← hnn]; exact HS.out)
  rw [hnn]
  obtain ⟨er, her⟩ : ∃ er, gradesErr gs = er := ⟨_, rfl⟩
  have HER := Lib.hid her
  clear hnn her E hw ha hb hc HS
  go_enter Tryz.func3, Tryz.ntmps3
  go_upto_region 1 with fail
  refine name_world ?_
  intro W1 hW1
  have X3 : Hid (Bx W1 W.heap.size 25 #[.float .f32 a, .float .f32 b, .float .f32 c, .float .f32 c4]) := Lib.hid (by rw [hW1]; exact Bx.new _ _ _)
  have HW : Hid (Below W.heap.size W W1) := Lib.hid (by rw [hW1]; exact bnew (Below.refl _ W))
  obtain ⟨p3, hp3⟩ : ∃ p, W.heap.size = p := ⟨_, rfl⟩
  have HP3 := Lib.hid hp3
  rw [hp3] at X3 ⊢
  clear hW1 hp3
  go_upto_region 3 with (go_at_call 7; refine (law_landed _).mono ?_; rintro e w' ⟨rfl, rfl⟩)
  go_wp2_with fail
  refine (grade_Tidy _ gs _ (HSn.out.keep HW.out)).mono ?_
  rintro e w2 ⟨hT, hb2⟩
  have X3b := Lib.hid (X3.out.keep hb2)
  have HW2 := Lib.hid (bcall HW.out hb2)
  have HT2 := Lib.hid hb2
  clear hb2
  rcases hT with ⟨h0, rfl⟩ | ⟨h0, vt, Cs, rfl, hO⟩
  · have h0' : er ≠ 0 := by rw [← HER.out]; exact h0
    rw [HER.out]
    have hne : (er == 0) = false := beq_eq_false_iff_ne.2 h0'
    clear h0
    go_wp2_with fail
    refine (ref_GradesError _ gs _ (HSn.out.keep HW2.out)).mono ?_
    rintro e w3 ⟨rfl, hb3⟩
    rw [HER.out]
    have HW3 := Lib.hid (bcall HW2.out hb3)
    clear hb3
    go_wp2_with fail
    go_ret
    exact ⟨rfl, HW3.out⟩
  · have hz : er = 0 := by rw [← HER.out]; exact h0
    have h64 : n ≤ 64 ∧ ∀ g ∈ gs, gradeErr g = 0 := by
      unfold gradesErr at h0
      rw [HN.out] at h0
      by_cases h : 64 < n
      · rw [if_pos h] at h0; cases h0
      · rw [if_neg h] at h0
        exact ⟨by omega, firstErr_zero h0⟩
    have H0 := Lib.hid h64
    have hn64 := h64.1
    have HO := Lib.hid hO
    subst hz
    clear h0 h64 hO
    obtain ⟨at_, ct, hvt⟩ : ∃ a c, vt = .slice a (tidyG gs).length c := by
      obtain ⟨a, c, h, _⟩ := HO.out.sl
      exact ⟨a, c, h⟩
    subst hvt
    go_wp2_with fail
    refine (ref_GradesError _ gs _ (HSn.out.keep HW2.out)).mono ?_
    rintro e w3 ⟨rfl, hb3⟩
    rw [HER.out]
    have HW3 := Lib.hid (bcall HW2.out hb3)
    have HO3 := Lib.hid (HO.out.sl.keep hb3)
    have X3c := Lib.hid (X3b.out.keep hb3)
    clear hb3
    go_wp2_with fail
    refine (sl_CloneG _ gs w3 (HSn.out.keep HW3.out) (by rw [HN.out]; omega)).mono ?_
    rintro e w4 ⟨v2, X, rfl, hXg, hO2, hgX, hb4⟩
    have HW4 := Lib.hid (bcall HW3.out hb4)
    have HO4 := Lib.hid (HO3.out.keep hb4)
    have X3d := Lib.hid (X3c.out.keep hb4)
    have HX := Lib.hid (And.intro hXg (And.intro hO2 (And.intro hgX hb4)))
    clear hXg hO2 hgX hb4
    go_wp2_with fail
    refine (delete_own v2 X w3 _ (by rw [HX.out.1]; exact HX.out.2.1) HX.out.2.2.2 (fun x hx => ⟨HX.out.2.2.1 x hx, H0.out.2 x.2 (by rw [← HX.out.1]; exact List.mem_map.2 ⟨x, hx, rfl⟩)⟩) (Nat.le_trans (Nat.le_of_eq (lenX HX.out.1 HN.out)) (Nat.le_trans hn64 (by omega)))).mono ?_
    rintro e w5 ⟨v3, rfl, hS3, hb5⟩
    rw [HX.out.1] at hS3
    have HW5 : Hid (Below W.heap.size W w5) := Lib.hid (HW3.out.trans (hb5.mono HW3.out.size))
    have HO5 := Lib.hid (HO3.out.keep hb5)
    have X3e := Lib.hid (X3c.out.keep hb5)
    have HS3 := Lib.hid hS3
    obtain ⟨a3, c3, hv3⟩ : ∃ a c, v3 = .slice a (tidyG gs).length c := by
      obtain ⟨a, c, h, _⟩ := hS3
      exact ⟨a, c, h⟩
    subst hv3
    clear hb5 hS3
    have hgok : ∀ g ∈ tidyG gs, GdOk g := fun g hg => by
      obtain ⟨k, hk⟩ := List.mem_iff_getElem?.1 (tidy_mem hg)
      obtain ⟨_, _, _, C, _, hC, _⟩ := HSn.out.row (Below.refl _ _) hk
      exact gdOk (right_of (H0.out.2 g (tidy_mem hg))) (HWd.out.1 g (tidy_mem hg)) hC.pts.1
    have HGO := Lib.hid hgok
    clear hgok
    go_wp2_with fail
    refine (equal_gr _ _ (tidyG gs) _ (HE.out.below HW5.out) HO5.out HS3.out HGO.out (by have := tidy_len gs; rw [HN.out] at this; omega)).mono ?_
    rintro e w6 ⟨rfl, hb6⟩
    have HW6 := Lib.hid (bcall HW5.out hb6)
    have X3f := Lib.hid (X3e.out.keep hb6)
    clear hb6
    go_wp2_with fail
    refine (ref_AllAt [a, b, c, c4] p3 0 4 _ _ rfl (by omega) (rd4 X3f.out)).mono ?_
    rintro e w7 ⟨rfl, hb7⟩
    have HW7 := Lib.hid (bcall HW6.out hb7)
    have X3g := Lib.hid (X3f.out.keep hb7)
    clear hb7
    cases hnum : [a, b, c, c4].all isNum
    · clear hnum
      go_wp2_with fail
      go_ret
      exact ⟨rfl, HW7.out⟩
    · have hP : Px4 a b c c4 := by
        simp only [List.all_cons, List.all_nil, Bool.and_true, Bool.and_eq_true] at hnum
        exact ⟨HWd.out.2.1, HWd.out.2.2.1, HWd.out.2.2.2, hnum.1, hnum.2.1, hnum.2.2.1, hnum.2.2.2⟩
      have HP := Lib.hid hP
      clear hnum hP
      go_wp2_with fail
      go_loopw [48] (fun i wr => ∃ k : Nat, k ≤ n ∧ i = .int .i64 k ∧ Hid (Below W.heap.size W wr ∧ Bx wr p3 25 #[.float .f32 a, .float .f32 b, .float .f32 c, .float .f32 c4])) (fun i _ => n - (RowKit.intOf i).toNat)
      case atStart => exact ⟨0, Nat.zero_le _, rfl, Lib.hid ⟨HW7.out, X3g.out⟩⟩
      case round =>
        obtain ⟨k, hk, rfl, HI⟩ := hrel
        by_cases hlt : k < n
        · obtain ⟨g, hg⟩ : ∃ g, gs[k]? = some g := ⟨_, List.getElem?_eq_getElem (by have := HN.out; omega)⟩
          obtain ⟨b1, o1, d1, C, e1, hC, hcl⟩ := HSn.out.row HI.out.1 hg
          obtain ⟨rfl, rfl⟩ : a0 = some ⟨b1, o1, none⟩ ∧ c0 = d1 := by cases e1; exact ⟨rfl, rfl⟩
          have hmem := List.mem_of_getElem? hg
          have hsz : (Tryz.prog.info? 46).map (·.size) = some C.size := by rw [hC.size]; exact grade_size
          have hst := fun w => grade_store w hC.size hC.one
          have hcs := hC.size
          have HC := Lib.hid (And.intro hC (And.intro hcl (And.intro hsz (And.intro (H0.out.2 g hmem) (HWd.out.1 g hmem)))))
          have hd1 : decide ((k : Int) < (n : Int)) = true := decide_eq_true (by omega)
          clear e1 hC hcl hsz hmem hg
          go_upto_region 14 with fail
          go_upto_region 15 with (refine wpList_load_cells rfl 46 (.tmp 50) rfl b1 (o1 + k * 49) rfl C HC.out.2.1 _ Tryz.underlying46 rfl HC.out.2.2.1 ?_)
          clear hst hcs
          refine name_world ?_
          intro W8 hW8
          have X10 : Hid (Bx W8 wr.heap.size 46 C) := Lib.hid (by rw [hW8]; exact Bx.new wr 46 C)
          have B8 : Hid (Below wr.heap.size wr W8) := Lib.hid (by rw [hW8]; exact bnew (ob := .cells C 46) (Below.refl _ _))
          obtain ⟨p10, hp10⟩ : ∃ p, wr.heap.size = p := ⟨_, rfl⟩
          rw [hp10] at X10 ⊢
          clear hW8 hp10
          go_wp2_with (refine wpList_load_cells rfl 46 (.tmp 10) rfl p10 0 rfl C (fun j v hj => by rw [X10.out.all.1, Nat.zero_add]; exact hj) _ Tryz.underlying46 rfl HC.out.2.2.1 ?_)
          refine (ref_Neutral C g _ (HC.out.1.keep B8.out) HC.out.2.2.2.1).mono ?_
          rintro e w9 ⟨rfl, hb9⟩
          have B9 : Hid (Below wr.heap.size wr w9) := Lib.hid (bcall B8.out hb9)
          have X10b := Lib.hid (X10.out.keep hb9)
          clear hb9
          obtain ⟨nb, hnb⟩ : ∃ nb, neutB g = nb := ⟨_, rfl⟩
          have HNB := Lib.hid hnb
          rw [hnb]
          clear hnb
          cases nb
          · go_wp2_with fail
            go_roundw
            case rel => exact ⟨k + 1, by omega, by go_num, Lib.hid ⟨HI.out.1.trans (B9.out.mono HI.out.1.size), HI.out.2.keep B9.out⟩⟩
            case measure => simp [RowKit.intOf]; omega
          · have X3h := Lib.hid (HI.out.2.keep B9.out)
            have y0 := X3h.out.all.1 0
            have y1 := X3h.out.all.1 1
            have y2 := X3h.out.all.1 2
            have y3 := X3h.out.all.1 3
            simp only [List.getElem?_toArray, List.getElem?_cons_zero, List.getElem?_cons_succ] at y0 y1 y2 y3
            go_wp2_with (refine wpList_load_cells rfl 46 (.tmp 10) rfl p10 0 rfl C (fun j v hj => by rw [X10b.out.all.1, Nat.zero_add]; exact hj) _ Tryz.underlying46 rfl HC.out.2.2.1 ?_)
            refine (grade_ApplyN C g _ (HC.out.1.keep B9.out) HC.out.2.2.2.1 HNB.out HC.out.2.2.2.2 a b c c4 HP.out).mono ?_
            rintro e w10 ⟨⟨q0, q1, q2, q3, rfl, hq⟩, hb10⟩
            have B10 : Hid (Below wr.heap.size wr w10) := Lib.hid (bcall B9.out hb10)
            have X3i := Lib.hid (X3h.out.keep hb10)
            clear hb10 y0 y1 y2 y3
            have heq := fun w => eq_px 9998 q0 q1 q2 q3 a b c c4 w
            simp only [hq] at heq
            clear hq
            go_upto_region 17 with fail
            refine name_world ?_
            intro W11 hW11
            have X11 : Hid (Bx W11 w10.heap.size 25 #[.float .f32 q0, .float .f32 q1, .float .f32 q2, .float .f32 q3]) := Lib.hid (by rw [hW11]; exact Bx.new _ _ _)
            have X3j : Hid (Bx W11 p3 25 #[.float .f32 a, .float .f32 b, .float .f32 c, .float .f32 c4]) := Lib.hid (by rw [hW11]; exact X3i.out.alloc _)
            have B11 : Hid (Below wr.heap.size wr W11) := Lib.hid (by rw [hW11]; exact bnew B10.out)
            obtain ⟨p11, hp11⟩ : ∃ p, w10.heap.size = p := ⟨_, rfl⟩
            rw [hp11] at X11 ⊢
            clear hW11 hp11
            have y0 := X3j.out.all.1 0
            have y1 := X3j.out.all.1 1
            have y2 := X3j.out.all.1 2
            have y3 := X3j.out.all.1 3
            have z0 := X11.out.all.1 0
            have z1 := X11.out.all.1 1
            have z2 := X11.out.all.1 2
            have z3 := X11.out.all.1 3
            simp only [List.getElem?_toArray, List.getElem?_cons_zero, List.getElem?_cons_succ] at y0 y1 y2 y3 z0 z1 z2 z3
            go_wp2_with fail
            go_roundw
            case rel => exact ⟨k + 1, by omega, by go_num, Lib.hid ⟨HI.out.1.trans (B11.out.mono HI.out.1.size), X3j.out⟩⟩
            case measure => simp [RowKit.intOf]; omega
        · obtain rfl : k = n := by omega
          go_wp2_with fail
          go_ret
          exact ⟨rfl, HI.out.1⟩
end Go.Proofs.YticekgnmiaidjaaGreatDoor
