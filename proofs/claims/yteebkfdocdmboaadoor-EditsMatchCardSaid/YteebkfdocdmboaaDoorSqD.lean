/- Stable sorting of pulls: the symmetric merge. (printed by gen_std.py) -/
import Derived.Test.YteebkfdocdmboaaDoorSqC
namespace Go.Proofs.YteebkfdocdmboaaDoor
open Go.RowKit

theorem qlast_at {l : List Pl} {k : Nat} {x : Pl} (_hk : 0 < k) (hl : l.length = k) (h : l.getLast? = some x) : l[k - 1]? = some x := by
  rw [List.getLast?_eq_getElem?, hl] at h; exact h
theorem qhead_at {l : List Pl} {x : Pl} (h : l.head? = some x) : l[0]? = some x := by rw [List.head?_eq_getElem?] at h; exact h

def qLeftOk (c : Pl → Pl → Int) (X Y : List Pl) (a mid lo s : Nat) : Prop := s = lo ∨ ∃ x y, X[s - 1 - a]? = some x ∧ Y[mid - s]? = some y ∧ St.le c x y
def qRightOk (c : Pl → Pl → Int) (X Y : List Pl) (a mid hi s : Nat) : Prop := s = hi ∨ ∃ x y, X[s - a]? = some x ∧ Y[mid - 1 - s]? = some y ∧ St.lt c y x

set_option maxRecDepth 100000 in
set_option maxHeartbeats 16000000 in
theorem sq_merge3 (g n cp : Nat) (F : FuncId) (c : Pl → Pl → Int) (V : Pl → Prop) (hC : CmpQ F c V) (o : St.Ord c V) (hn : n ≤ 1000000) (A X Y B : List Pl) (W : World) (hr : RowQ W g n (A ++ X ++ Y ++ B)) (hX : 2 ≤ X.length) (hY : 2 ≤ Y.length) (sX : St.Srt c X) (sY : St.Srt c Y) (vX : St.VL V X) (vY : St.VL V Y) (a m b : Nat) (ha : a = A.length) (hm : m = a + X.length) (hb : b = m + Y.length)
    (IH : ∀ (A X1 Y1 B : List Pl) (W : World) (ia im ib : Int), X1.length + Y1.length < X.length + Y.length → RowQ W g n (A ++ X1 ++ Y1 ++ B) → 0 < X1.length → 0 < Y1.length → St.Srt c X1 → St.Srt c Y1 → St.VL V X1 → St.VL V Y1 → ia = (A.length : Int) → im = (A.length : Int) + X1.length → ib = (A.length : Int) + X1.length + Y1.length →
      Calls Tryd.prog 55 #[.slice (some ⟨g, 0, none⟩) n cp, .int .i64 ia, .int .i64 im, .int .i64 ib, .func (.func F) #[] #[]] W fun e w' => e = .returned (.tuple #[]) ∧ ∃ Z, RowQ w' g n (A ++ Z ++ B) ∧ St.Srt c Z ∧ St.Stb c V (X1 ++ Y1) Z ∧ St.VL V Z ∧ Oth g W w') :
    Calls Tryd.prog 55 #[.slice (some ⟨g, 0, none⟩) n cp, .int .i64 (a : Int), .int .i64 (m : Int), .int .i64 (b : Int), .func (.func F) #[] #[]] W fun e w' => e = .returned (.tuple #[]) ∧ ∃ Z, RowQ w' g n (A ++ Z ++ B) ∧ St.Srt c Z ∧ St.Stb c V (X ++ Y) Z ∧ St.VL V Z ∧ Oth g W w' := by
  have hcf := hC.enter
  have hl := hr.len
  simp only [List.length_append] at hl
  have b1 : b ≤ n := by omega
  have b2 : m + 2 ≤ b := by omega
  have b3 : a + 2 ≤ m := by omega
  have hm1 : ((m : Int) - (a : Int) == 1) = false := beq_eq_false_iff_ne.2 (by omega)
  have hm2 : ((b : Int) - (m : Int) == 1) = false := beq_eq_false_iff_ne.2 (by omega)
  have HA := Lib.hid ha
  have HM := Lib.hid hm
  have HB := Lib.hid hb
  obtain ⟨mid, hmid⟩ : ∃ h : Nat, (a + b) / 2 = h := ⟨_, rfl⟩
  have hmide : ((a : Int) + (b : Int)) / 2 = (mid : Int) := by omega
  have m1 : 2 * mid ≤ a + b := by omega
  have m2 : a + b ≤ 2 * mid + 1 := by omega
  clear hl ha hm hb hmid
  go_enter Tryd.func55, Tryd.ntmps55
  obtain ⟨lo, hi, hlo, q1, q2, q3, q4, q5, q6, q7⟩ : ∃ lo hi : Nat, ((mid < m ∧ lo + b = mid + m ∧ hi = mid) ∨ (m ≤ mid ∧ lo = a ∧ hi = m)) ∧ a ≤ lo ∧ lo ≤ hi ∧ hi ≤ mid ∧ hi ≤ m ∧ mid + m ≤ b + lo ∧ (lo = a ∨ lo + b = mid + m) ∧ (hi = mid ∨ hi = m) := by
    by_cases h : mid < m
    · exact ⟨mid + m - b, mid, .inl ⟨h, by omega, rfl⟩, by omega, by omega, by omega, by omega, by omega, by omega, by omega⟩
    · exact ⟨a, m, .inr ⟨by omega, rfl, rfl⟩, by omega, by omega, by omega, by omega, by omega, by omega, by omega⟩
  have HQ := Lib.hid (And.intro q6 q7)
  clear q6 q7
  have vXY := Lib.hid (And.intro vX vY)
  have sXY := Lib.hid (And.intro sX sY)
  have fin : ∀ s : Nat, lo ≤ s → s ≤ hi → qLeftOk c X Y a mid lo s → qRightOk c X Y a mid hi s →
      ∃ X1 X2 Y1 Y2, X = X1 ++ X2 ∧ Y = Y1 ++ Y2 ∧ s = a + X1.length ∧ m = s + X2.length ∧ mid = s + Y1.length ∧ (∀ x ∈ X1, ∀ y ∈ Y2, St.le c x y) ∧ (∀ x ∈ X2, ∀ y ∈ Y1, St.lt c y x) := by
    intro s s1 s2 h1 h2
    have hM := HM.out
    have hB := HB.out
    obtain ⟨X1, X2, rfl, lX1⟩ := St.split_at (l := X) (k := s - a) (by omega)
    obtain ⟨Y1, Y2, rfl, lY1⟩ := St.split_at (l := Y) (k := mid - s) (by omega)
    have lX2 : (X1 ++ X2).length = X1.length + X2.length := List.length_append
    have lY2 : (Y1 ++ Y2).length = Y1.length + Y2.length := List.length_append
    obtain ⟨r1, r2⟩ := St.halves o vX vY sX sY (X1 := X1) (X2 := X2) (Y1 := Y1) (Y2 := Y2) (by
        intro x hx y hy
        have hp : 0 < X1.length := by cases X1 with
          | nil => simp at hx
          | cons _ _ => simp
        have hp2 : 0 < Y2.length := by cases Y2 with
          | nil => simp at hy
          | cons _ _ => simp
        rcases h1 with h1 | ⟨x', y', e1, e2, e3⟩
        · have := HQ.out.1
          omega
        · rw [show s - 1 - a = X1.length - 1 by omega, List.getElem?_append_left (by omega), qlast_at hp rfl hx] at e1
          rw [show mid - s = Y1.length by omega, List.getElem?_append_right (Nat.le_refl _), Nat.sub_self, qhead_at hy] at e2
          cases e1; cases e2; exact e3) (by
        intro y hy x hx
        have hp : 0 < Y1.length := by cases Y1 with
          | nil => simp at hy
          | cons _ _ => simp
        have hp2 : 0 < X2.length := by cases X2 with
          | nil => simp at hx
          | cons _ _ => simp
        rcases h2 with h2 | ⟨x', y', e1, e2, e3⟩
        · have := HQ.out.2
          omega
        · rw [show mid - 1 - s = Y1.length - 1 by omega, List.getElem?_append_left (by omega), qlast_at hp rfl hy] at e2
          rw [show s - a = X1.length by omega, List.getElem?_append_right (Nat.le_refl _), Nat.sub_self, qhead_at hx] at e1
          cases e1; cases e2; exact e3)
    exact ⟨X1, X2, Y1, Y2, rfl, rfl, by omega, by omega, by omega, r1, r2⟩
  have FIN := Lib.hid fin
  clear fin vX vY sX sY
  have key : ∀ (wx : World), True := fun _ => trivial
  clear key
  rcases hlo with ⟨d1, d2, d3⟩ | ⟨d1, d2, d3⟩
  · go_wp2_with fail
    have HDD := Lib.hid (And.intro d2 d3)
    clear d2 d3
    go_loopw [20, 21] (fun sv rv wr => ∃ (s r : Nat), sv = .int .i64 (s : Int) ∧ rv = .int .i64 (r : Int) ∧ lo ≤ s ∧ s ≤ r ∧ r ≤ hi ∧ qLeftOk c X Y a mid lo s ∧ qRightOk c X Y a mid hi r ∧ Below W.heap.size W wr) (fun sv rv _ => (intOf rv).toNat - (intOf sv).toNat)
    case atStart => exact ⟨lo, hi, by have := HDD.out; congr 1; omega, by have := HDD.out; congr 1; omega, Nat.le_refl _, q2, Nat.le_refl _, .inl rfl, .inl rfl, Below.refl _ _⟩
    case round =>
      obtain ⟨s, r, rfl, rfl, hs, hsr, hr1, h1, h2, B1⟩ := hrel
      by_cases hlt : s < r
      · obtain ⟨h, hh⟩ : ∃ h : Nat, (s + r) / 2 = h := ⟨_, rfl⟩
        have hhe : ((s : Int) + (r : Int)) / 2 = (h : Int) := by omega
        have k1 : s ≤ h := by omega
        have k2 : h < r := by omega
        clear hh
        have row := hr.keep B1
        obtain ⟨x, hx⟩ : ∃ x, X[h - a]? = some x := ⟨_, List.getElem?_eq_getElem (by have := HM.out; omega)⟩
        obtain ⟨y, hy⟩ : ∃ y, Y[mid - 1 - h]? = some y := ⟨_, List.getElem?_eq_getElem (by have := HM.out; have := HB.out; omega)⟩
        have hvx : V x := vXY.out.1 x (List.mem_of_getElem? hx)
        have hvy : V y := vXY.out.2 y (List.mem_of_getElem? hy)
        obtain ⟨q, hq⟩ : ∃ q : Nat, q = mid + m - 1 - h := ⟨_, rfl⟩
        have hqe : (mid : Int) + (m : Int) - 1 - (h : Int) = (q : Int) := by omega
        have hqn : q < n := by omega
        have hhn : h < n := by omega
        have p1 : PlAt wr g h x := by
          have hA := HA.out
          have hM := HM.out
          have hh := row.cell h hhn
          rw [List.getD_eq_getElem?_getD, List.append_assoc, List.append_assoc, List.getElem?_append_right (by omega), ← hA, List.getElem?_append_left (by omega), hx] at hh; exact hh
        obtain ⟨p1, p1b, p1c⟩ := p1
        have p2 : PlAt wr g q y := by
          have hA := HA.out
          have hM := HM.out
          have hB := HB.out
          have hh := row.cell q hqn
          rw [List.getD_eq_getElem?_getD, List.append_assoc, List.append_assoc, List.getElem?_append_right (by omega), List.getElem?_append_right (by omega), List.getElem?_append_left (by omega), show q - A.length - X.length = mid - 1 - h by omega, hy] at hh; exact hh
        obtain ⟨p2, p2b, p2c⟩ := p2
        have lg := row.lt
        obtain ⟨z, hz2⟩ : ∃ z, c y x = z := ⟨_, rfl⟩
        have g1 : ¬ z < 0 → ∃ x y, X[h + 1 - 1 - a]? = some x ∧ Y[mid - (h + 1)]? = some y ∧ St.le c x y := fun hneg => ⟨x, y, hx, by rw [show mid - (h + 1) = mid - 1 - h by omega]; exact hy, by rw [← hz2] at hneg; exact hneg⟩
        have g2 : z < 0 → ∃ x y, X[h - a]? = some x ∧ Y[mid - 1 - h]? = some y ∧ St.lt c y x := fun hneg => ⟨x, y, hx, hy, by rw [← hz2] at hneg; exact hneg⟩
        have HD := Lib.hid (And.intro h1 (And.intro h2 (And.intro g1 g2)))
        clear h1 h2 g1 g2 hx hy row hq IH
        go_wp2_with fail
        refine wp_region_all (fun z : BW wr.heap.size wr => z.w) (by kernel_rfl) (by kernel_rfl) (BW.start _ _) rfl ?_
        by_cases hneg : z < 0
        · repeat (go_big_quiet_step (first
            | (exact BW.call (Nat.le_refl _) _ (hC.at hz2 hvy hvx _))))
          refine wpQuiet_nil ?_
          intro z
          have hzb := B1.trans (z.below.mono B1.size)
          generalize z.w = wq at *
          go_wp2_with fail
          go_roundw
          case rel => exact ⟨s, h, rfl, rfl, hs, k1, by omega, HD.out.1, .inr (HD.out.2.2.2 hneg), hzb⟩
          case measure => simp [intOf] <;> omega
        · repeat (go_big_quiet_step (first
            | (exact BW.call (Nat.le_refl _) _ (hC.at hz2 hvy hvx _))))
          refine wpQuiet_nil ?_
          intro z
          have hzb := B1.trans (z.below.mono B1.size)
          generalize z.w = wq at *
          go_wp2_with fail
          go_roundw
          case rel => exact ⟨h + 1, r, by go_num, rfl, by omega, by omega, hr1, .inr (HD.out.2.2.1 (by omega)), HD.out.2.1, hzb⟩
          case measure => simp [intOf] <;> omega
      · obtain rfl : r = s := by omega
        obtain ⟨X1, X2, Y1, Y2, eX, eY, t1, t2, t3, t4, t5⟩ := FIN.out r hs hr1 h1 h2
        obtain ⟨ed, hed⟩ : ∃ ed : Nat, ed = mid + m - r := ⟨_, rfl⟩
        have hede : (mid : Int) + (m : Int) - (r : Int) = (ed : Int) := by omega
        have t6 : ed = m + Y1.length := by omega
        have t7 : b = ed + Y2.length := by have := HB.out; rw [eY, List.length_append] at this; omega
        have row := hr.keep B1
        rw [eX, eY] at row
        obtain ⟨vX, vY⟩ := vXY.out
        obtain ⟨sX, sY⟩ := sXY.out
        rw [eX] at vX sX
        rw [eY] at vY sY
        have hA := HA.out
        have lIH : X.length + Y.length = X1.length + X2.length + (Y1.length + Y2.length) := by rw [eX, eY, List.length_append, List.length_append]
        have oth : Oth g W wr := Oth.of_below B1
        have HS := Lib.hid (And.intro t4 (And.intro t5 (And.intro sX sY)))
        have HV := Lib.hid (And.intro vX vY)
        have HL := Lib.hid (And.intro t1 (And.intro t2 (And.intro t3 (And.intro t6 (And.intro t7 hA)))))
        have HE := Lib.hid (And.intro eX eY)
        have HI := Lib.hid lIH
        have u1 : a ≤ r := by omega
        have u2 : r ≤ m := by omega
        have u3 : r ≤ mid := by omega
        have u4 : m ≤ ed := by omega
        have u5 : mid ≤ ed := by omega
        have u6 : ed ≤ b := by omega
        clear h1 h2 hr t1 t2 t3 t4 t5 t6 t7 sX sY vX vY eX eY hA hed lIH B1
        by_cases c1 : r < m ∧ m < ed
        · obtain ⟨c11, c12⟩ := c1
          first
            | (exfalso; have := HL.out; omega)
            | skip
              go_wp2_with fail
              refine (sq_rotate g n cp _ ⟨F, rfl⟩ hn (A ++ X1) X2 Y1 (Y2 ++ B) _ (by simpa [List.append_assoc] using row) (by have := HL.out; omega) (by have := HL.out; omega) _ _ _ ?_ ?_ ?_).mono ?_
              · rw [List.length_append]; have := HL.out; push_cast; omega
              · rw [List.length_append]; have := HL.out; push_cast; omega
              · rw [List.length_append]; have := HL.out; push_cast; omega
              rintro e w7 ⟨rfl, row7, oth7⟩
              replace oth := oth.trans oth7
              replace row : RowQ w7 g n (A ++ X1 ++ Y1 ++ X2 ++ Y2 ++ B) := by simpa [List.append_assoc] using row7
              clear row7 oth7
              by_cases c2 : a < r ∧ r < mid
              · obtain ⟨c21, c22⟩ := c2
                first
                  | (exfalso; have := HL.out; omega)
                  | skip
                    go_wp2_with fail
                    all_goals try (exfalso; omega)
                    refine (IH A X1 Y1 (X2 ++ Y2 ++ B) _ _ _ _ (by rw [HI.out]; have := HL.out; omega) (by simpa [List.append_assoc] using row) (by have := HL.out; omega) (by have := HL.out; omega) (St.Srt.app.1 HS.out.2.2.1).1 (St.Srt.app.1 HS.out.2.2.2).1 (St.VL.app.1 HV.out.1).1 (St.VL.app.1 HV.out.2).1 ?_ ?_ ?_).mono ?_
                    · have := HL.out; omega
                    · have := HL.out; omega
                    · have := HL.out; omega
                    rintro e w8 ⟨rfl, Z1, row8, sZ1, tZ1, vZ1, oth8⟩
                    replace oth := oth.trans oth8
                    replace row : RowQ w8 g n (A ++ Z1 ++ X2 ++ Y2 ++ B) := by simpa [List.append_assoc] using row8
                    clear row8 oth8
                    have lZ1 : Z1.length = X1.length + Y1.length := by rw [tZ1.1, List.length_append]
                    by_cases c3 : mid < ed ∧ ed < b
                    · obtain ⟨c31, c32⟩ := c3
                      first
                        | (exfalso; have := HL.out; omega)
                        | skip
                          go_wp2_with fail
                          refine (IH (A ++ Z1) X2 Y2 B _ _ _ _ (by rw [HI.out]; have := HL.out; omega) (by simpa [List.append_assoc] using row) (by have := HL.out; omega) (by have := HL.out; omega) (St.Srt.app.1 HS.out.2.2.1).2.1 (St.Srt.app.1 HS.out.2.2.2).2.1 (St.VL.app.1 HV.out.1).2 (St.VL.app.1 HV.out.2).2 ?_ ?_ ?_).mono ?_
                          · rw [List.length_append, lZ1]; have := HL.out; push_cast; omega
                          · rw [List.length_append, lZ1]; have := HL.out; push_cast; omega
                          · rw [List.length_append, lZ1]; have := HL.out; push_cast; omega
                          rintro e w9 ⟨rfl, Z2, row9, sZ2, tZ2, vZ2, oth9⟩
                          have row := row9
                          replace oth := oth.trans oth9
                          clear row9 oth9
                          have HZ := Lib.hid (And.intro (St.merged o HV.out.1 HV.out.2 vZ1 vZ2 HS.out.2.2.1 HS.out.2.2.2 HS.out.1 HS.out.2.1 sZ1 sZ2 tZ1 tZ2) (St.VL.app.2 ⟨vZ1, vZ2⟩))
                          have HR := Lib.hid (And.intro row oth)
                          clear row oth sZ1 sZ2 tZ1 tZ2 vZ1 vZ2
                          go_wp2_with fail
                          all_goals (first | (exfalso; omega) | go_end0 | (simp only [Exit.inBlock, Exit.then]; refine bodyPost_ret (results_none rfl _ _ _) rfl ?_) | refine bodyPost_ret (results_none rfl _ _ _) rfl ?_)
                          all_goals exact ⟨rfl, Z1 ++ Z2, by have := HR.out.1; simpa [List.append_assoc] using this, HZ.out.1.1, by have := HE.out.1; have := HE.out.2; first | (rw [HE.out.1, HE.out.2]; exact HZ.out.1.2) | exact HZ.out.1.2, HZ.out.2, HR.out.2⟩
                    · rcases (by omega : (mid < ed ∧ ed = b) ∨ mid = ed) with ⟨c31, c32⟩ | c31
                      · have c33 : ¬ (ed : Int) < (b : Int) := by omega
                        first
                          | (exfalso; have := HL.out; omega)
                          | skip
                            obtain ⟨Z2, hZ2⟩ : ∃ Z2, Z2 = X2 ++ Y2 := ⟨_, rfl⟩
                            have sZ2 : St.Srt c Z2 := by
                              rw [hZ2]
                              rcases (by have := HL.out; omega : X2.length = 0 ∨ Y2.length = 0) with h | h
                              · rw [List.length_eq_zero_iff.1 h, List.nil_append]; exact (St.Srt.app.1 HS.out.2.2.2).2.1
                              · rw [List.length_eq_zero_iff.1 h, List.append_nil]; exact (St.Srt.app.1 HS.out.2.2.1).2.1
                            have tZ2 : St.Stb c V (X2 ++ Y2) Z2 := by rw [hZ2]; exact St.Stb.refl _
                            have vZ2 : St.VL V Z2 := by rw [hZ2]; exact St.VL.app.2 ⟨(St.VL.app.1 HV.out.1).2, (St.VL.app.1 HV.out.2).2⟩
                            have row2 : ∀ w, RowQ w g n (A ++ Z1 ++ X2 ++ Y2 ++ B) → RowQ w g n ((A ++ Z1) ++ Z2 ++ B) := fun w h => by rw [hZ2]; simpa [List.append_assoc] using h
                            replace row := row2 _ row
                            clear hZ2 row2
                            have HZ := Lib.hid (And.intro (St.merged o HV.out.1 HV.out.2 vZ1 vZ2 HS.out.2.2.1 HS.out.2.2.2 HS.out.1 HS.out.2.1 sZ1 sZ2 tZ1 tZ2) (St.VL.app.2 ⟨vZ1, vZ2⟩))
                            have HR := Lib.hid (And.intro row oth)
                            clear row oth sZ1 sZ2 tZ1 tZ2 vZ1 vZ2
                            go_wp2_with fail
                            all_goals (first | (exfalso; omega) | go_end0 | (simp only [Exit.inBlock, Exit.then]; refine bodyPost_ret (results_none rfl _ _ _) rfl ?_) | refine bodyPost_ret (results_none rfl _ _ _) rfl ?_)
                            all_goals exact ⟨rfl, Z1 ++ Z2, by have := HR.out.1; simpa [List.append_assoc] using this, HZ.out.1.1, by have := HE.out.1; have := HE.out.2; first | (rw [HE.out.1, HE.out.2]; exact HZ.out.1.2) | exact HZ.out.1.2, HZ.out.2, HR.out.2⟩
                      · have c32 : ¬ (mid : Int) < (ed : Int) := by omega
                        first
                          | (exfalso; have := HL.out; omega)
                          | skip
                            obtain ⟨Z2, hZ2⟩ : ∃ Z2, Z2 = X2 ++ Y2 := ⟨_, rfl⟩
                            have sZ2 : St.Srt c Z2 := by
                              rw [hZ2]
                              rcases (by have := HL.out; omega : X2.length = 0 ∨ Y2.length = 0) with h | h
                              · rw [List.length_eq_zero_iff.1 h, List.nil_append]; exact (St.Srt.app.1 HS.out.2.2.2).2.1
                              · rw [List.length_eq_zero_iff.1 h, List.append_nil]; exact (St.Srt.app.1 HS.out.2.2.1).2.1
                            have tZ2 : St.Stb c V (X2 ++ Y2) Z2 := by rw [hZ2]; exact St.Stb.refl _
                            have vZ2 : St.VL V Z2 := by rw [hZ2]; exact St.VL.app.2 ⟨(St.VL.app.1 HV.out.1).2, (St.VL.app.1 HV.out.2).2⟩
                            have row2 : ∀ w, RowQ w g n (A ++ Z1 ++ X2 ++ Y2 ++ B) → RowQ w g n ((A ++ Z1) ++ Z2 ++ B) := fun w h => by rw [hZ2]; simpa [List.append_assoc] using h
                            replace row := row2 _ row
                            clear hZ2 row2
                            have HZ := Lib.hid (And.intro (St.merged o HV.out.1 HV.out.2 vZ1 vZ2 HS.out.2.2.1 HS.out.2.2.2 HS.out.1 HS.out.2.1 sZ1 sZ2 tZ1 tZ2) (St.VL.app.2 ⟨vZ1, vZ2⟩))
                            have HR := Lib.hid (And.intro row oth)
                            clear row oth sZ1 sZ2 tZ1 tZ2 vZ1 vZ2
                            go_wp2_with fail
                            all_goals (first | (exfalso; omega) | go_end0 | (simp only [Exit.inBlock, Exit.then]; refine bodyPost_ret (results_none rfl _ _ _) rfl ?_) | refine bodyPost_ret (results_none rfl _ _ _) rfl ?_)
                            all_goals exact ⟨rfl, Z1 ++ Z2, by have := HR.out.1; simpa [List.append_assoc] using this, HZ.out.1.1, by have := HE.out.1; have := HE.out.2; first | (rw [HE.out.1, HE.out.2]; exact HZ.out.1.2) | exact HZ.out.1.2, HZ.out.2, HR.out.2⟩
              · rcases (by omega : (a < r ∧ r = mid) ∨ a = r) with ⟨c21, c22⟩ | c21
                · have c23 : ¬ (r : Int) < (mid : Int) := by omega
                  first
                    | (exfalso; have := HL.out; omega)
                    | skip
                      obtain ⟨Z1, hZ1⟩ : ∃ Z1, Z1 = X1 ++ Y1 := ⟨_, rfl⟩
                      have sZ1 : St.Srt c Z1 := by
                        rw [hZ1]
                        rcases (by have := HL.out; omega : X1.length = 0 ∨ Y1.length = 0) with h | h
                        · rw [List.length_eq_zero_iff.1 h, List.nil_append]; exact (St.Srt.app.1 HS.out.2.2.2).1
                        · rw [List.length_eq_zero_iff.1 h, List.append_nil]; exact (St.Srt.app.1 HS.out.2.2.1).1
                      have tZ1 : St.Stb c V (X1 ++ Y1) Z1 := by rw [hZ1]; exact St.Stb.refl _
                      have vZ1 : St.VL V Z1 := by rw [hZ1]; exact St.VL.app.2 ⟨(St.VL.app.1 HV.out.1).1, (St.VL.app.1 HV.out.2).1⟩
                      have row1 : ∀ w, RowQ w g n (A ++ X1 ++ Y1 ++ X2 ++ Y2 ++ B) → RowQ w g n (A ++ Z1 ++ X2 ++ Y2 ++ B) := fun w h => by rw [hZ1]; simpa [List.append_assoc] using h
                      replace row := row1 _ row
                      clear hZ1 row1
                      have lZ1 : Z1.length = X1.length + Y1.length := by rw [tZ1.1, List.length_append]
                      by_cases c3 : mid < ed ∧ ed < b
                      · obtain ⟨c31, c32⟩ := c3
                        first
                          | (exfalso; have := HL.out; omega)
                          | skip
                            go_wp2_with fail
                            refine (IH (A ++ Z1) X2 Y2 B _ _ _ _ (by rw [HI.out]; have := HL.out; omega) (by simpa [List.append_assoc] using row) (by have := HL.out; omega) (by have := HL.out; omega) (St.Srt.app.1 HS.out.2.2.1).2.1 (St.Srt.app.1 HS.out.2.2.2).2.1 (St.VL.app.1 HV.out.1).2 (St.VL.app.1 HV.out.2).2 ?_ ?_ ?_).mono ?_
                            · rw [List.length_append, lZ1]; have := HL.out; push_cast; omega
                            · rw [List.length_append, lZ1]; have := HL.out; push_cast; omega
                            · rw [List.length_append, lZ1]; have := HL.out; push_cast; omega
                            rintro e w9 ⟨rfl, Z2, row9, sZ2, tZ2, vZ2, oth9⟩
                            have row := row9
                            replace oth := oth.trans oth9
                            clear row9 oth9
                            have HZ := Lib.hid (And.intro (St.merged o HV.out.1 HV.out.2 vZ1 vZ2 HS.out.2.2.1 HS.out.2.2.2 HS.out.1 HS.out.2.1 sZ1 sZ2 tZ1 tZ2) (St.VL.app.2 ⟨vZ1, vZ2⟩))
                            have HR := Lib.hid (And.intro row oth)
                            clear row oth sZ1 sZ2 tZ1 tZ2 vZ1 vZ2
                            go_wp2_with fail
                            all_goals (first | (exfalso; omega) | go_end0 | (simp only [Exit.inBlock, Exit.then]; refine bodyPost_ret (results_none rfl _ _ _) rfl ?_) | refine bodyPost_ret (results_none rfl _ _ _) rfl ?_)
                            all_goals exact ⟨rfl, Z1 ++ Z2, by have := HR.out.1; simpa [List.append_assoc] using this, HZ.out.1.1, by have := HE.out.1; have := HE.out.2; first | (rw [HE.out.1, HE.out.2]; exact HZ.out.1.2) | exact HZ.out.1.2, HZ.out.2, HR.out.2⟩
                      · rcases (by omega : (mid < ed ∧ ed = b) ∨ mid = ed) with ⟨c31, c32⟩ | c31
                        · have c33 : ¬ (ed : Int) < (b : Int) := by omega
                          first
                            | (exfalso; have := HL.out; omega)
                            | skip
                              obtain ⟨Z2, hZ2⟩ : ∃ Z2, Z2 = X2 ++ Y2 := ⟨_, rfl⟩
                              have sZ2 : St.Srt c Z2 := by
                                rw [hZ2]
                                rcases (by have := HL.out; omega : X2.length = 0 ∨ Y2.length = 0) with h | h
                                · rw [List.length_eq_zero_iff.1 h, List.nil_append]; exact (St.Srt.app.1 HS.out.2.2.2).2.1
                                · rw [List.length_eq_zero_iff.1 h, List.append_nil]; exact (St.Srt.app.1 HS.out.2.2.1).2.1
                              have tZ2 : St.Stb c V (X2 ++ Y2) Z2 := by rw [hZ2]; exact St.Stb.refl _
                              have vZ2 : St.VL V Z2 := by rw [hZ2]; exact St.VL.app.2 ⟨(St.VL.app.1 HV.out.1).2, (St.VL.app.1 HV.out.2).2⟩
                              have row2 : ∀ w, RowQ w g n (A ++ Z1 ++ X2 ++ Y2 ++ B) → RowQ w g n ((A ++ Z1) ++ Z2 ++ B) := fun w h => by rw [hZ2]; simpa [List.append_assoc] using h
                              replace row := row2 _ row
                              clear hZ2 row2
                              have HZ := Lib.hid (And.intro (St.merged o HV.out.1 HV.out.2 vZ1 vZ2 HS.out.2.2.1 HS.out.2.2.2 HS.out.1 HS.out.2.1 sZ1 sZ2 tZ1 tZ2) (St.VL.app.2 ⟨vZ1, vZ2⟩))
                              have HR := Lib.hid (And.intro row oth)
                              clear row oth sZ1 sZ2 tZ1 tZ2 vZ1 vZ2
                              go_wp2_with fail
                              all_goals (first | (exfalso; omega) | go_end0 | (simp only [Exit.inBlock, Exit.then]; refine bodyPost_ret (results_none rfl _ _ _) rfl ?_) | refine bodyPost_ret (results_none rfl _ _ _) rfl ?_)
                              all_goals exact ⟨rfl, Z1 ++ Z2, by have := HR.out.1; simpa [List.append_assoc] using this, HZ.out.1.1, by have := HE.out.1; have := HE.out.2; first | (rw [HE.out.1, HE.out.2]; exact HZ.out.1.2) | exact HZ.out.1.2, HZ.out.2, HR.out.2⟩
                        · have c32 : ¬ (mid : Int) < (ed : Int) := by omega
                          first
                            | (exfalso; have := HL.out; omega)
                            | skip
                              obtain ⟨Z2, hZ2⟩ : ∃ Z2, Z2 = X2 ++ Y2 := ⟨_, rfl⟩
                              have sZ2 : St.Srt c Z2 := by
                                rw [hZ2]
                                rcases (by have := HL.out; omega : X2.length = 0 ∨ Y2.length = 0) with h | h
                                · rw [List.length_eq_zero_iff.1 h, List.nil_append]; exact (St.Srt.app.1 HS.out.2.2.2).2.1
                                · rw [List.length_eq_zero_iff.1 h, List.append_nil]; exact (St.Srt.app.1 HS.out.2.2.1).2.1
                              have tZ2 : St.Stb c V (X2 ++ Y2) Z2 := by rw [hZ2]; exact St.Stb.refl _
                              have vZ2 : St.VL V Z2 := by rw [hZ2]; exact St.VL.app.2 ⟨(St.VL.app.1 HV.out.1).2, (St.VL.app.1 HV.out.2).2⟩
                              have row2 : ∀ w, RowQ w g n (A ++ Z1 ++ X2 ++ Y2 ++ B) → RowQ w g n ((A ++ Z1) ++ Z2 ++ B) := fun w h => by rw [hZ2]; simpa [List.append_assoc] using h
                              replace row := row2 _ row
                              clear hZ2 row2
                              have HZ := Lib.hid (And.intro (St.merged o HV.out.1 HV.out.2 vZ1 vZ2 HS.out.2.2.1 HS.out.2.2.2 HS.out.1 HS.out.2.1 sZ1 sZ2 tZ1 tZ2) (St.VL.app.2 ⟨vZ1, vZ2⟩))
                              have HR := Lib.hid (And.intro row oth)
                              clear row oth sZ1 sZ2 tZ1 tZ2 vZ1 vZ2
                              go_wp2_with fail
                              all_goals (first | (exfalso; omega) | go_end0 | (simp only [Exit.inBlock, Exit.then]; refine bodyPost_ret (results_none rfl _ _ _) rfl ?_) | refine bodyPost_ret (results_none rfl _ _ _) rfl ?_)
                              all_goals exact ⟨rfl, Z1 ++ Z2, by have := HR.out.1; simpa [List.append_assoc] using this, HZ.out.1.1, by have := HE.out.1; have := HE.out.2; first | (rw [HE.out.1, HE.out.2]; exact HZ.out.1.2) | exact HZ.out.1.2, HZ.out.2, HR.out.2⟩
                · have c22 : ¬ (a : Int) < (r : Int) := by omega
                  first
                    | (exfalso; have := HL.out; omega)
                    | skip
                      obtain ⟨Z1, hZ1⟩ : ∃ Z1, Z1 = X1 ++ Y1 := ⟨_, rfl⟩
                      have sZ1 : St.Srt c Z1 := by
                        rw [hZ1]
                        rcases (by have := HL.out; omega : X1.length = 0 ∨ Y1.length = 0) with h | h
                        · rw [List.length_eq_zero_iff.1 h, List.nil_append]; exact (St.Srt.app.1 HS.out.2.2.2).1
                        · rw [List.length_eq_zero_iff.1 h, List.append_nil]; exact (St.Srt.app.1 HS.out.2.2.1).1
                      have tZ1 : St.Stb c V (X1 ++ Y1) Z1 := by rw [hZ1]; exact St.Stb.refl _
                      have vZ1 : St.VL V Z1 := by rw [hZ1]; exact St.VL.app.2 ⟨(St.VL.app.1 HV.out.1).1, (St.VL.app.1 HV.out.2).1⟩
                      have row1 : ∀ w, RowQ w g n (A ++ X1 ++ Y1 ++ X2 ++ Y2 ++ B) → RowQ w g n (A ++ Z1 ++ X2 ++ Y2 ++ B) := fun w h => by rw [hZ1]; simpa [List.append_assoc] using h
                      replace row := row1 _ row
                      clear hZ1 row1
                      have lZ1 : Z1.length = X1.length + Y1.length := by rw [tZ1.1, List.length_append]
                      by_cases c3 : mid < ed ∧ ed < b
                      · obtain ⟨c31, c32⟩ := c3
                        first
                          | (exfalso; have := HL.out; omega)
                          | skip
                            go_wp2_with fail
                            refine (IH (A ++ Z1) X2 Y2 B _ _ _ _ (by rw [HI.out]; have := HL.out; omega) (by simpa [List.append_assoc] using row) (by have := HL.out; omega) (by have := HL.out; omega) (St.Srt.app.1 HS.out.2.2.1).2.1 (St.Srt.app.1 HS.out.2.2.2).2.1 (St.VL.app.1 HV.out.1).2 (St.VL.app.1 HV.out.2).2 ?_ ?_ ?_).mono ?_
                            · rw [List.length_append, lZ1]; have := HL.out; push_cast; omega
                            · rw [List.length_append, lZ1]; have := HL.out; push_cast; omega
                            · rw [List.length_append, lZ1]; have := HL.out; push_cast; omega
                            rintro e w9 ⟨rfl, Z2, row9, sZ2, tZ2, vZ2, oth9⟩
                            have row := row9
                            replace oth := oth.trans oth9
                            clear row9 oth9
                            have HZ := Lib.hid (And.intro (St.merged o HV.out.1 HV.out.2 vZ1 vZ2 HS.out.2.2.1 HS.out.2.2.2 HS.out.1 HS.out.2.1 sZ1 sZ2 tZ1 tZ2) (St.VL.app.2 ⟨vZ1, vZ2⟩))
                            have HR := Lib.hid (And.intro row oth)
                            clear row oth sZ1 sZ2 tZ1 tZ2 vZ1 vZ2
                            go_wp2_with fail
                            all_goals (first | (exfalso; omega) | go_end0 | (simp only [Exit.inBlock, Exit.then]; refine bodyPost_ret (results_none rfl _ _ _) rfl ?_) | refine bodyPost_ret (results_none rfl _ _ _) rfl ?_)
                            all_goals exact ⟨rfl, Z1 ++ Z2, by have := HR.out.1; simpa [List.append_assoc] using this, HZ.out.1.1, by have := HE.out.1; have := HE.out.2; first | (rw [HE.out.1, HE.out.2]; exact HZ.out.1.2) | exact HZ.out.1.2, HZ.out.2, HR.out.2⟩
                      · rcases (by omega : (mid < ed ∧ ed = b) ∨ mid = ed) with ⟨c31, c32⟩ | c31
                        · have c33 : ¬ (ed : Int) < (b : Int) := by omega
                          first
                            | (exfalso; have := HL.out; omega)
                            | skip
                              obtain ⟨Z2, hZ2⟩ : ∃ Z2, Z2 = X2 ++ Y2 := ⟨_, rfl⟩
                              have sZ2 : St.Srt c Z2 := by
                                rw [hZ2]
                                rcases (by have := HL.out; omega : X2.length = 0 ∨ Y2.length = 0) with h | h
                                · rw [List.length_eq_zero_iff.1 h, List.nil_append]; exact (St.Srt.app.1 HS.out.2.2.2).2.1
                                · rw [List.length_eq_zero_iff.1 h, List.append_nil]; exact (St.Srt.app.1 HS.out.2.2.1).2.1
                              have tZ2 : St.Stb c V (X2 ++ Y2) Z2 := by rw [hZ2]; exact St.Stb.refl _
                              have vZ2 : St.VL V Z2 := by rw [hZ2]; exact St.VL.app.2 ⟨(St.VL.app.1 HV.out.1).2, (St.VL.app.1 HV.out.2).2⟩
                              have row2 : ∀ w, RowQ w g n (A ++ Z1 ++ X2 ++ Y2 ++ B) → RowQ w g n ((A ++ Z1) ++ Z2 ++ B) := fun w h => by rw [hZ2]; simpa [List.append_assoc] using h
                              replace row := row2 _ row
                              clear hZ2 row2
                              have HZ := Lib.hid (And.intro (St.merged o HV.out.1 HV.out.2 vZ1 vZ2 HS.out.2.2.1 HS.out.2.2.2 HS.out.1 HS.out.2.1 sZ1 sZ2 tZ1 tZ2) (St.VL.app.2 ⟨vZ1, vZ2⟩))
                              have HR := Lib.hid (And.intro row oth)
                              clear row oth sZ1 sZ2 tZ1 tZ2 vZ1 vZ2
                              go_wp2_with fail
                              all_goals (first | (exfalso; omega) | go_end0 | (simp only [Exit.inBlock, Exit.then]; refine bodyPost_ret (results_none rfl _ _ _) rfl ?_) | refine bodyPost_ret (results_none rfl _ _ _) rfl ?_)
                              all_goals exact ⟨rfl, Z1 ++ Z2, by have := HR.out.1; simpa [List.append_assoc] using this, HZ.out.1.1, by have := HE.out.1; have := HE.out.2; first | (rw [HE.out.1, HE.out.2]; exact HZ.out.1.2) | exact HZ.out.1.2, HZ.out.2, HR.out.2⟩
                        · have c32 : ¬ (mid : Int) < (ed : Int) := by omega
                          first
                            | (exfalso; have := HL.out; omega)
                            | skip
                              obtain ⟨Z2, hZ2⟩ : ∃ Z2, Z2 = X2 ++ Y2 := ⟨_, rfl⟩
                              have sZ2 : St.Srt c Z2 := by
                                rw [hZ2]
                                rcases (by have := HL.out; omega : X2.length = 0 ∨ Y2.length = 0) with h | h
                                · rw [List.length_eq_zero_iff.1 h, List.nil_append]; exact (St.Srt.app.1 HS.out.2.2.2).2.1
                                · rw [List.length_eq_zero_iff.1 h, List.append_nil]; exact (St.Srt.app.1 HS.out.2.2.1).2.1
                              have tZ2 : St.Stb c V (X2 ++ Y2) Z2 := by rw [hZ2]; exact St.Stb.refl _
                              have vZ2 : St.VL V Z2 := by rw [hZ2]; exact St.VL.app.2 ⟨(St.VL.app.1 HV.out.1).2, (St.VL.app.1 HV.out.2).2⟩
                              have row2 : ∀ w, RowQ w g n (A ++ Z1 ++ X2 ++ Y2 ++ B) → RowQ w g n ((A ++ Z1) ++ Z2 ++ B) := fun w h => by rw [hZ2]; simpa [List.append_assoc] using h
                              replace row := row2 _ row
                              clear hZ2 row2
                              have HZ := Lib.hid (And.intro (St.merged o HV.out.1 HV.out.2 vZ1 vZ2 HS.out.2.2.1 HS.out.2.2.2 HS.out.1 HS.out.2.1 sZ1 sZ2 tZ1 tZ2) (St.VL.app.2 ⟨vZ1, vZ2⟩))
                              have HR := Lib.hid (And.intro row oth)
                              clear row oth sZ1 sZ2 tZ1 tZ2 vZ1 vZ2
                              go_wp2_with fail
                              all_goals (first | (exfalso; omega) | go_end0 | (simp only [Exit.inBlock, Exit.then]; refine bodyPost_ret (results_none rfl _ _ _) rfl ?_) | refine bodyPost_ret (results_none rfl _ _ _) rfl ?_)
                              all_goals exact ⟨rfl, Z1 ++ Z2, by have := HR.out.1; simpa [List.append_assoc] using this, HZ.out.1.1, by have := HE.out.1; have := HE.out.2; first | (rw [HE.out.1, HE.out.2]; exact HZ.out.1.2) | exact HZ.out.1.2, HZ.out.2, HR.out.2⟩
        · rcases (by omega : (r < m ∧ m = ed) ∨ r = m) with ⟨c11, c12⟩ | c11
          · have c13 : ¬ (m : Int) < (ed : Int) := by omega
            first
              | (exfalso; have := HL.out; omega)
              | skip
                have row0 : ∀ w, RowQ w g n (A ++ (X1 ++ X2) ++ (Y1 ++ Y2) ++ B) → RowQ w g n (A ++ X1 ++ Y1 ++ X2 ++ Y2 ++ B) := fun w hw => by
                  rcases (by have := HL.out; omega : X2.length = 0 ∨ Y1.length = 0) with h | h
                  · rw [List.length_eq_zero_iff.1 h] at hw ⊢; simpa [List.append_assoc] using hw
                  · rw [List.length_eq_zero_iff.1 h] at hw ⊢; simpa [List.append_assoc] using hw
                replace row := row0 _ row
                clear row0
                by_cases c2 : a < r ∧ r < mid
                · obtain ⟨c21, c22⟩ := c2
                  first
                    | (exfalso; have := HL.out; omega)
                    | skip
                      go_wp2_with fail
                      all_goals try (exfalso; omega)
                      refine (IH A X1 Y1 (X2 ++ Y2 ++ B) _ _ _ _ (by rw [HI.out]; have := HL.out; omega) (by simpa [List.append_assoc] using row) (by have := HL.out; omega) (by have := HL.out; omega) (St.Srt.app.1 HS.out.2.2.1).1 (St.Srt.app.1 HS.out.2.2.2).1 (St.VL.app.1 HV.out.1).1 (St.VL.app.1 HV.out.2).1 ?_ ?_ ?_).mono ?_
                      · have := HL.out; omega
                      · have := HL.out; omega
                      · have := HL.out; omega
                      rintro e w8 ⟨rfl, Z1, row8, sZ1, tZ1, vZ1, oth8⟩
                      replace oth := oth.trans oth8
                      replace row : RowQ w8 g n (A ++ Z1 ++ X2 ++ Y2 ++ B) := by simpa [List.append_assoc] using row8
                      clear row8 oth8
                      have lZ1 : Z1.length = X1.length + Y1.length := by rw [tZ1.1, List.length_append]
                      by_cases c3 : mid < ed ∧ ed < b
                      · obtain ⟨c31, c32⟩ := c3
                        first
                          | (exfalso; have := HL.out; omega)
                          | skip
                            go_wp2_with fail
                            refine (IH (A ++ Z1) X2 Y2 B _ _ _ _ (by rw [HI.out]; have := HL.out; omega) (by simpa [List.append_assoc] using row) (by have := HL.out; omega) (by have := HL.out; omega) (St.Srt.app.1 HS.out.2.2.1).2.1 (St.Srt.app.1 HS.out.2.2.2).2.1 (St.VL.app.1 HV.out.1).2 (St.VL.app.1 HV.out.2).2 ?_ ?_ ?_).mono ?_
                            · rw [List.length_append, lZ1]; have := HL.out; push_cast; omega
                            · rw [List.length_append, lZ1]; have := HL.out; push_cast; omega
                            · rw [List.length_append, lZ1]; have := HL.out; push_cast; omega
                            rintro e w9 ⟨rfl, Z2, row9, sZ2, tZ2, vZ2, oth9⟩
                            have row := row9
                            replace oth := oth.trans oth9
                            clear row9 oth9
                            have HZ := Lib.hid (And.intro (St.merged o HV.out.1 HV.out.2 vZ1 vZ2 HS.out.2.2.1 HS.out.2.2.2 HS.out.1 HS.out.2.1 sZ1 sZ2 tZ1 tZ2) (St.VL.app.2 ⟨vZ1, vZ2⟩))
                            have HR := Lib.hid (And.intro row oth)
                            clear row oth sZ1 sZ2 tZ1 tZ2 vZ1 vZ2
                            go_wp2_with fail
                            all_goals (first | (exfalso; omega) | go_end0 | (simp only [Exit.inBlock, Exit.then]; refine bodyPost_ret (results_none rfl _ _ _) rfl ?_) | refine bodyPost_ret (results_none rfl _ _ _) rfl ?_)
                            all_goals exact ⟨rfl, Z1 ++ Z2, by have := HR.out.1; simpa [List.append_assoc] using this, HZ.out.1.1, by have := HE.out.1; have := HE.out.2; first | (rw [HE.out.1, HE.out.2]; exact HZ.out.1.2) | exact HZ.out.1.2, HZ.out.2, HR.out.2⟩
                      · rcases (by omega : (mid < ed ∧ ed = b) ∨ mid = ed) with ⟨c31, c32⟩ | c31
                        · have c33 : ¬ (ed : Int) < (b : Int) := by omega
                          first
                            | (exfalso; have := HL.out; omega)
                            | skip
                              obtain ⟨Z2, hZ2⟩ : ∃ Z2, Z2 = X2 ++ Y2 := ⟨_, rfl⟩
                              have sZ2 : St.Srt c Z2 := by
                                rw [hZ2]
                                rcases (by have := HL.out; omega : X2.length = 0 ∨ Y2.length = 0) with h | h
                                · rw [List.length_eq_zero_iff.1 h, List.nil_append]; exact (St.Srt.app.1 HS.out.2.2.2).2.1
                                · rw [List.length_eq_zero_iff.1 h, List.append_nil]; exact (St.Srt.app.1 HS.out.2.2.1).2.1
                              have tZ2 : St.Stb c V (X2 ++ Y2) Z2 := by rw [hZ2]; exact St.Stb.refl _
                              have vZ2 : St.VL V Z2 := by rw [hZ2]; exact St.VL.app.2 ⟨(St.VL.app.1 HV.out.1).2, (St.VL.app.1 HV.out.2).2⟩
                              have row2 : ∀ w, RowQ w g n (A ++ Z1 ++ X2 ++ Y2 ++ B) → RowQ w g n ((A ++ Z1) ++ Z2 ++ B) := fun w h => by rw [hZ2]; simpa [List.append_assoc] using h
                              replace row := row2 _ row
                              clear hZ2 row2
                              have HZ := Lib.hid (And.intro (St.merged o HV.out.1 HV.out.2 vZ1 vZ2 HS.out.2.2.1 HS.out.2.2.2 HS.out.1 HS.out.2.1 sZ1 sZ2 tZ1 tZ2) (St.VL.app.2 ⟨vZ1, vZ2⟩))
                              have HR := Lib.hid (And.intro row oth)
                              clear row oth sZ1 sZ2 tZ1 tZ2 vZ1 vZ2
                              go_wp2_with fail
                              all_goals (first | (exfalso; omega) | go_end0 | (simp only [Exit.inBlock, Exit.then]; refine bodyPost_ret (results_none rfl _ _ _) rfl ?_) | refine bodyPost_ret (results_none rfl _ _ _) rfl ?_)
                              all_goals exact ⟨rfl, Z1 ++ Z2, by have := HR.out.1; simpa [List.append_assoc] using this, HZ.out.1.1, by have := HE.out.1; have := HE.out.2; first | (rw [HE.out.1, HE.out.2]; exact HZ.out.1.2) | exact HZ.out.1.2, HZ.out.2, HR.out.2⟩
                        · have c32 : ¬ (mid : Int) < (ed : Int) := by omega
                          first
                            | (exfalso; have := HL.out; omega)
                            | skip
                              obtain ⟨Z2, hZ2⟩ : ∃ Z2, Z2 = X2 ++ Y2 := ⟨_, rfl⟩
                              have sZ2 : St.Srt c Z2 := by
                                rw [hZ2]
                                rcases (by have := HL.out; omega : X2.length = 0 ∨ Y2.length = 0) with h | h
                                · rw [List.length_eq_zero_iff.1 h, List.nil_append]; exact (St.Srt.app.1 HS.out.2.2.2).2.1
                                · rw [List.length_eq_zero_iff.1 h, List.append_nil]; exact (St.Srt.app.1 HS.out.2.2.1).2.1
                              have tZ2 : St.Stb c V (X2 ++ Y2) Z2 := by rw [hZ2]; exact St.Stb.refl _
                              have vZ2 : St.VL V Z2 := by rw [hZ2]; exact St.VL.app.2 ⟨(St.VL.app.1 HV.out.1).2, (St.VL.app.1 HV.out.2).2⟩
                              have row2 : ∀ w, RowQ w g n (A ++ Z1 ++ X2 ++ Y2 ++ B) → RowQ w g n ((A ++ Z1) ++ Z2 ++ B) := fun w h => by rw [hZ2]; simpa [List.append_assoc] using h
                              replace row := row2 _ row
                              clear hZ2 row2
                              have HZ := Lib.hid (And.intro (St.merged o HV.out.1 HV.out.2 vZ1 vZ2 HS.out.2.2.1 HS.out.2.2.2 HS.out.1 HS.out.2.1 sZ1 sZ2 tZ1 tZ2) (St.VL.app.2 ⟨vZ1, vZ2⟩))
                              have HR := Lib.hid (And.intro row oth)
                              clear row oth sZ1 sZ2 tZ1 tZ2 vZ1 vZ2
                              go_wp2_with fail
                              all_goals (first | (exfalso; omega) | go_end0 | (simp only [Exit.inBlock, Exit.then]; refine bodyPost_ret (results_none rfl _ _ _) rfl ?_) | refine bodyPost_ret (results_none rfl _ _ _) rfl ?_)
                              all_goals exact ⟨rfl, Z1 ++ Z2, by have := HR.out.1; simpa [List.append_assoc] using this, HZ.out.1.1, by have := HE.out.1; have := HE.out.2; first | (rw [HE.out.1, HE.out.2]; exact HZ.out.1.2) | exact HZ.out.1.2, HZ.out.2, HR.out.2⟩
                · rcases (by omega : (a < r ∧ r = mid) ∨ a = r) with ⟨c21, c22⟩ | c21
                  · have c23 : ¬ (r : Int) < (mid : Int) := by omega
                    first
                      | (exfalso; have := HL.out; omega)
                      | skip
                        obtain ⟨Z1, hZ1⟩ : ∃ Z1, Z1 = X1 ++ Y1 := ⟨_, rfl⟩
                        have sZ1 : St.Srt c Z1 := by
                          rw [hZ1]
                          rcases (by have := HL.out; omega : X1.length = 0 ∨ Y1.length = 0) with h | h
                          · rw [List.length_eq_zero_iff.1 h, List.nil_append]; exact (St.Srt.app.1 HS.out.2.2.2).1
                          · rw [List.length_eq_zero_iff.1 h, List.append_nil]; exact (St.Srt.app.1 HS.out.2.2.1).1
                        have tZ1 : St.Stb c V (X1 ++ Y1) Z1 := by rw [hZ1]; exact St.Stb.refl _
                        have vZ1 : St.VL V Z1 := by rw [hZ1]; exact St.VL.app.2 ⟨(St.VL.app.1 HV.out.1).1, (St.VL.app.1 HV.out.2).1⟩
                        have row1 : ∀ w, RowQ w g n (A ++ X1 ++ Y1 ++ X2 ++ Y2 ++ B) → RowQ w g n (A ++ Z1 ++ X2 ++ Y2 ++ B) := fun w h => by rw [hZ1]; simpa [List.append_assoc] using h
                        replace row := row1 _ row
                        clear hZ1 row1
                        have lZ1 : Z1.length = X1.length + Y1.length := by rw [tZ1.1, List.length_append]
                        by_cases c3 : mid < ed ∧ ed < b
                        · obtain ⟨c31, c32⟩ := c3
                          first
                            | (exfalso; have := HL.out; omega)
                            | skip
                              go_wp2_with fail
                              refine (IH (A ++ Z1) X2 Y2 B _ _ _ _ (by rw [HI.out]; have := HL.out; omega) (by simpa [List.append_assoc] using row) (by have := HL.out; omega) (by have := HL.out; omega) (St.Srt.app.1 HS.out.2.2.1).2.1 (St.Srt.app.1 HS.out.2.2.2).2.1 (St.VL.app.1 HV.out.1).2 (St.VL.app.1 HV.out.2).2 ?_ ?_ ?_).mono ?_
                              · rw [List.length_append, lZ1]; have := HL.out; push_cast; omega
                              · rw [List.length_append, lZ1]; have := HL.out; push_cast; omega
                              · rw [List.length_append, lZ1]; have := HL.out; push_cast; omega
                              rintro e w9 ⟨rfl, Z2, row9, sZ2, tZ2, vZ2, oth9⟩
                              have row := row9
                              replace oth := oth.trans oth9
                              clear row9 oth9
                              have HZ := Lib.hid (And.intro (St.merged o HV.out.1 HV.out.2 vZ1 vZ2 HS.out.2.2.1 HS.out.2.2.2 HS.out.1 HS.out.2.1 sZ1 sZ2 tZ1 tZ2) (St.VL.app.2 ⟨vZ1, vZ2⟩))
                              have HR := Lib.hid (And.intro row oth)
                              clear row oth sZ1 sZ2 tZ1 tZ2 vZ1 vZ2
                              go_wp2_with fail
                              all_goals (first | (exfalso; omega) | go_end0 | (simp only [Exit.inBlock, Exit.then]; refine bodyPost_ret (results_none rfl _ _ _) rfl ?_) | refine bodyPost_ret (results_none rfl _ _ _) rfl ?_)
                              all_goals exact ⟨rfl, Z1 ++ Z2, by have := HR.out.1; simpa [List.append_assoc] using this, HZ.out.1.1, by have := HE.out.1; have := HE.out.2; first | (rw [HE.out.1, HE.out.2]; exact HZ.out.1.2) | exact HZ.out.1.2, HZ.out.2, HR.out.2⟩
                        · rcases (by omega : (mid < ed ∧ ed = b) ∨ mid = ed) with ⟨c31, c32⟩ | c31
                          · have c33 : ¬ (ed : Int) < (b : Int) := by omega
                            first
                              | (exfalso; have := HL.out; omega)
                              | skip
                                obtain ⟨Z2, hZ2⟩ : ∃ Z2, Z2 = X2 ++ Y2 := ⟨_, rfl⟩
                                have sZ2 : St.Srt c Z2 := by
                                  rw [hZ2]
                                  rcases (by have := HL.out; omega : X2.length = 0 ∨ Y2.length = 0) with h | h
                                  · rw [List.length_eq_zero_iff.1 h, List.nil_append]; exact (St.Srt.app.1 HS.out.2.2.2).2.1
                                  · rw [List.length_eq_zero_iff.1 h, List.append_nil]; exact (St.Srt.app.1 HS.out.2.2.1).2.1
                                have tZ2 : St.Stb c V (X2 ++ Y2) Z2 := by rw [hZ2]; exact St.Stb.refl _
                                have vZ2 : St.VL V Z2 := by rw [hZ2]; exact St.VL.app.2 ⟨(St.VL.app.1 HV.out.1).2, (St.VL.app.1 HV.out.2).2⟩
                                have row2 : ∀ w, RowQ w g n (A ++ Z1 ++ X2 ++ Y2 ++ B) → RowQ w g n ((A ++ Z1) ++ Z2 ++ B) := fun w h => by rw [hZ2]; simpa [List.append_assoc] using h
                                replace row := row2 _ row
                                clear hZ2 row2
                                have HZ := Lib.hid (And.intro (St.merged o HV.out.1 HV.out.2 vZ1 vZ2 HS.out.2.2.1 HS.out.2.2.2 HS.out.1 HS.out.2.1 sZ1 sZ2 tZ1 tZ2) (St.VL.app.2 ⟨vZ1, vZ2⟩))
                                have HR := Lib.hid (And.intro row oth)
                                clear row oth sZ1 sZ2 tZ1 tZ2 vZ1 vZ2
                                go_wp2_with fail
                                all_goals (first | (exfalso; omega) | go_end0 | (simp only [Exit.inBlock, Exit.then]; refine bodyPost_ret (results_none rfl _ _ _) rfl ?_) | refine bodyPost_ret (results_none rfl _ _ _) rfl ?_)
                                all_goals exact ⟨rfl, Z1 ++ Z2, by have := HR.out.1; simpa [List.append_assoc] using this, HZ.out.1.1, by have := HE.out.1; have := HE.out.2; first | (rw [HE.out.1, HE.out.2]; exact HZ.out.1.2) | exact HZ.out.1.2, HZ.out.2, HR.out.2⟩
                          · have c32 : ¬ (mid : Int) < (ed : Int) := by omega
                            first
                              | (exfalso; have := HL.out; omega)
                              | skip
                                obtain ⟨Z2, hZ2⟩ : ∃ Z2, Z2 = X2 ++ Y2 := ⟨_, rfl⟩
                                have sZ2 : St.Srt c Z2 := by
                                  rw [hZ2]
                                  rcases (by have := HL.out; omega : X2.length = 0 ∨ Y2.length = 0) with h | h
                                  · rw [List.length_eq_zero_iff.1 h, List.nil_append]; exact (St.Srt.app.1 HS.out.2.2.2).2.1
                                  · rw [List.length_eq_zero_iff.1 h, List.append_nil]; exact (St.Srt.app.1 HS.out.2.2.1).2.1
                                have tZ2 : St.Stb c V (X2 ++ Y2) Z2 := by rw [hZ2]; exact St.Stb.refl _
                                have vZ2 : St.VL V Z2 := by rw [hZ2]; exact St.VL.app.2 ⟨(St.VL.app.1 HV.out.1).2, (St.VL.app.1 HV.out.2).2⟩
                                have row2 : ∀ w, RowQ w g n (A ++ Z1 ++ X2 ++ Y2 ++ B) → RowQ w g n ((A ++ Z1) ++ Z2 ++ B) := fun w h => by rw [hZ2]; simpa [List.append_assoc] using h
                                replace row := row2 _ row
                                clear hZ2 row2
                                have HZ := Lib.hid (And.intro (St.merged o HV.out.1 HV.out.2 vZ1 vZ2 HS.out.2.2.1 HS.out.2.2.2 HS.out.1 HS.out.2.1 sZ1 sZ2 tZ1 tZ2) (St.VL.app.2 ⟨vZ1, vZ2⟩))
                                have HR := Lib.hid (And.intro row oth)
                                clear row oth sZ1 sZ2 tZ1 tZ2 vZ1 vZ2
                                go_wp2_with fail
                                all_goals (first | (exfalso; omega) | go_end0 | (simp only [Exit.inBlock, Exit.then]; refine bodyPost_ret (results_none rfl _ _ _) rfl ?_) | refine bodyPost_ret (results_none rfl _ _ _) rfl ?_)
                                all_goals exact ⟨rfl, Z1 ++ Z2, by have := HR.out.1; simpa [List.append_assoc] using this, HZ.out.1.1, by have := HE.out.1; have := HE.out.2; first | (rw [HE.out.1, HE.out.2]; exact HZ.out.1.2) | exact HZ.out.1.2, HZ.out.2, HR.out.2⟩
                  · have c22 : ¬ (a : Int) < (r : Int) := by omega
                    first
                      | (exfalso; have := HL.out; omega)
                      | skip
                        obtain ⟨Z1, hZ1⟩ : ∃ Z1, Z1 = X1 ++ Y1 := ⟨_, rfl⟩
                        have sZ1 : St.Srt c Z1 := by
                          rw [hZ1]
                          rcases (by have := HL.out; omega : X1.length = 0 ∨ Y1.length = 0) with h | h
                          · rw [List.length_eq_zero_iff.1 h, List.nil_append]; exact (St.Srt.app.1 HS.out.2.2.2).1
                          · rw [List.length_eq_zero_iff.1 h, List.append_nil]; exact (St.Srt.app.1 HS.out.2.2.1).1
                        have tZ1 : St.Stb c V (X1 ++ Y1) Z1 := by rw [hZ1]; exact St.Stb.refl _
                        have vZ1 : St.VL V Z1 := by rw [hZ1]; exact St.VL.app.2 ⟨(St.VL.app.1 HV.out.1).1, (St.VL.app.1 HV.out.2).1⟩
                        have row1 : ∀ w, RowQ w g n (A ++ X1 ++ Y1 ++ X2 ++ Y2 ++ B) → RowQ w g n (A ++ Z1 ++ X2 ++ Y2 ++ B) := fun w h => by rw [hZ1]; simpa [List.append_assoc] using h
                        replace row := row1 _ row
                        clear hZ1 row1
                        have lZ1 : Z1.length = X1.length + Y1.length := by rw [tZ1.1, List.length_append]
                        by_cases c3 : mid < ed ∧ ed < b
                        · obtain ⟨c31, c32⟩ := c3
                          first
                            | (exfalso; have := HL.out; omega)
                            | skip
                              go_wp2_with fail
                              refine (IH (A ++ Z1) X2 Y2 B _ _ _ _ (by rw [HI.out]; have := HL.out; omega) (by simpa [List.append_assoc] using row) (by have := HL.out; omega) (by have := HL.out; omega) (St.Srt.app.1 HS.out.2.2.1).2.1 (St.Srt.app.1 HS.out.2.2.2).2.1 (St.VL.app.1 HV.out.1).2 (St.VL.app.1 HV.out.2).2 ?_ ?_ ?_).mono ?_
                              · rw [List.length_append, lZ1]; have := HL.out; push_cast; omega
                              · rw [List.length_append, lZ1]; have := HL.out; push_cast; omega
                              · rw [List.length_append, lZ1]; have := HL.out; push_cast; omega
                              rintro e w9 ⟨rfl, Z2, row9, sZ2, tZ2, vZ2, oth9⟩
                              have row := row9
                              replace oth := oth.trans oth9
                              clear row9 oth9
                              have HZ := Lib.hid (And.intro (St.merged o HV.out.1 HV.out.2 vZ1 vZ2 HS.out.2.2.1 HS.out.2.2.2 HS.out.1 HS.out.2.1 sZ1 sZ2 tZ1 tZ2) (St.VL.app.2 ⟨vZ1, vZ2⟩))
                              have HR := Lib.hid (And.intro row oth)
                              clear row oth sZ1 sZ2 tZ1 tZ2 vZ1 vZ2
                              go_wp2_with fail
                              all_goals (first | (exfalso; omega) | go_end0 | (simp only [Exit.inBlock, Exit.then]; refine bodyPost_ret (results_none rfl _ _ _) rfl ?_) | refine bodyPost_ret (results_none rfl _ _ _) rfl ?_)
                              all_goals exact ⟨rfl, Z1 ++ Z2, by have := HR.out.1; simpa [List.append_assoc] using this, HZ.out.1.1, by have := HE.out.1; have := HE.out.2; first | (rw [HE.out.1, HE.out.2]; exact HZ.out.1.2) | exact HZ.out.1.2, HZ.out.2, HR.out.2⟩
                        · rcases (by omega : (mid < ed ∧ ed = b) ∨ mid = ed) with ⟨c31, c32⟩ | c31
                          · have c33 : ¬ (ed : Int) < (b : Int) := by omega
                            first
                              | (exfalso; have := HL.out; omega)
                              | skip
                                obtain ⟨Z2, hZ2⟩ : ∃ Z2, Z2 = X2 ++ Y2 := ⟨_, rfl⟩
                                have sZ2 : St.Srt c Z2 := by
                                  rw [hZ2]
                                  rcases (by have := HL.out; omega : X2.length = 0 ∨ Y2.length = 0) with h | h
                                  · rw [List.length_eq_zero_iff.1 h, List.nil_append]; exact (St.Srt.app.1 HS.out.2.2.2).2.1
                                  · rw [List.length_eq_zero_iff.1 h, List.append_nil]; exact (St.Srt.app.1 HS.out.2.2.1).2.1
                                have tZ2 : St.Stb c V (X2 ++ Y2) Z2 := by rw [hZ2]; exact St.Stb.refl _
                                have vZ2 : St.VL V Z2 := by rw [hZ2]; exact St.VL.app.2 ⟨(St.VL.app.1 HV.out.1).2, (St.VL.app.1 HV.out.2).2⟩
                                have row2 : ∀ w, RowQ w g n (A ++ Z1 ++ X2 ++ Y2 ++ B) → RowQ w g n ((A ++ Z1) ++ Z2 ++ B) := fun w h => by rw [hZ2]; simpa [List.append_assoc] using h
                                replace row := row2 _ row
                                clear hZ2 row2
                                have HZ := Lib.hid (And.intro (St.merged o HV.out.1 HV.out.2 vZ1 vZ2 HS.out.2.2.1 HS.out.2.2.2 HS.out.1 HS.out.2.1 sZ1 sZ2 tZ1 tZ2) (St.VL.app.2 ⟨vZ1, vZ2⟩))
                                have HR := Lib.hid (And.intro row oth)
                                clear row oth sZ1 sZ2 tZ1 tZ2 vZ1 vZ2
                                go_wp2_with fail
                                all_goals (first | (exfalso; omega) | go_end0 | (simp only [Exit.inBlock, Exit.then]; refine bodyPost_ret (results_none rfl _ _ _) rfl ?_) | refine bodyPost_ret (results_none rfl _ _ _) rfl ?_)
                                all_goals exact ⟨rfl, Z1 ++ Z2, by have := HR.out.1; simpa [List.append_assoc] using this, HZ.out.1.1, by have := HE.out.1; have := HE.out.2; first | (rw [HE.out.1, HE.out.2]; exact HZ.out.1.2) | exact HZ.out.1.2, HZ.out.2, HR.out.2⟩
                          · have c32 : ¬ (mid : Int) < (ed : Int) := by omega
                            first
                              | (exfalso; have := HL.out; omega)
                              | skip
                                obtain ⟨Z2, hZ2⟩ : ∃ Z2, Z2 = X2 ++ Y2 := ⟨_, rfl⟩
                                have sZ2 : St.Srt c Z2 := by
                                  rw [hZ2]
                                  rcases (by have := HL.out; omega : X2.length = 0 ∨ Y2.length = 0) with h | h
                                  · rw [List.length_eq_zero_iff.1 h, List.nil_append]; exact (St.Srt.app.1 HS.out.2.2.2).2.1
                                  · rw [List.length_eq_zero_iff.1 h, List.append_nil]; exact (St.Srt.app.1 HS.out.2.2.1).2.1
                                have tZ2 : St.Stb c V (X2 ++ Y2) Z2 := by rw [hZ2]; exact St.Stb.refl _
                                have vZ2 : St.VL V Z2 := by rw [hZ2]; exact St.VL.app.2 ⟨(St.VL.app.1 HV.out.1).2, (St.VL.app.1 HV.out.2).2⟩
                                have row2 : ∀ w, RowQ w g n (A ++ Z1 ++ X2 ++ Y2 ++ B) → RowQ w g n ((A ++ Z1) ++ Z2 ++ B) := fun w h => by rw [hZ2]; simpa [List.append_assoc] using h
                                replace row := row2 _ row
                                clear hZ2 row2
                                have HZ := Lib.hid (And.intro (St.merged o HV.out.1 HV.out.2 vZ1 vZ2 HS.out.2.2.1 HS.out.2.2.2 HS.out.1 HS.out.2.1 sZ1 sZ2 tZ1 tZ2) (St.VL.app.2 ⟨vZ1, vZ2⟩))
                                have HR := Lib.hid (And.intro row oth)
                                clear row oth sZ1 sZ2 tZ1 tZ2 vZ1 vZ2
                                go_wp2_with fail
                                all_goals (first | (exfalso; omega) | go_end0 | (simp only [Exit.inBlock, Exit.then]; refine bodyPost_ret (results_none rfl _ _ _) rfl ?_) | refine bodyPost_ret (results_none rfl _ _ _) rfl ?_)
                                all_goals exact ⟨rfl, Z1 ++ Z2, by have := HR.out.1; simpa [List.append_assoc] using this, HZ.out.1.1, by have := HE.out.1; have := HE.out.2; first | (rw [HE.out.1, HE.out.2]; exact HZ.out.1.2) | exact HZ.out.1.2, HZ.out.2, HR.out.2⟩
          · have c12 : ¬ (r : Int) < (m : Int) := by omega
            first
              | (exfalso; have := HL.out; omega)
              | skip
                have row0 : ∀ w, RowQ w g n (A ++ (X1 ++ X2) ++ (Y1 ++ Y2) ++ B) → RowQ w g n (A ++ X1 ++ Y1 ++ X2 ++ Y2 ++ B) := fun w hw => by
                  rcases (by have := HL.out; omega : X2.length = 0 ∨ Y1.length = 0) with h | h
                  · rw [List.length_eq_zero_iff.1 h] at hw ⊢; simpa [List.append_assoc] using hw
                  · rw [List.length_eq_zero_iff.1 h] at hw ⊢; simpa [List.append_assoc] using hw
                replace row := row0 _ row
                clear row0
                by_cases c2 : a < r ∧ r < mid
                · obtain ⟨c21, c22⟩ := c2
                  first
                    | (exfalso; have := HL.out; omega)
                    | skip
                      have c24 : decide ((m : Int) < (mid : Int)) = true := decide_eq_true (by omega)
                      have c25 : decide (m < mid) = true := decide_eq_true (by omega)
                      go_wp2_with fail
                      all_goals try (exfalso; omega)
                      refine (IH A X1 Y1 (X2 ++ Y2 ++ B) _ _ _ _ (by rw [HI.out]; have := HL.out; omega) (by simpa [List.append_assoc] using row) (by have := HL.out; omega) (by have := HL.out; omega) (St.Srt.app.1 HS.out.2.2.1).1 (St.Srt.app.1 HS.out.2.2.2).1 (St.VL.app.1 HV.out.1).1 (St.VL.app.1 HV.out.2).1 ?_ ?_ ?_).mono ?_
                      · have := HL.out; omega
                      · have := HL.out; omega
                      · have := HL.out; omega
                      rintro e w8 ⟨rfl, Z1, row8, sZ1, tZ1, vZ1, oth8⟩
                      replace oth := oth.trans oth8
                      replace row : RowQ w8 g n (A ++ Z1 ++ X2 ++ Y2 ++ B) := by simpa [List.append_assoc] using row8
                      clear row8 oth8
                      have lZ1 : Z1.length = X1.length + Y1.length := by rw [tZ1.1, List.length_append]
                      by_cases c3 : mid < ed ∧ ed < b
                      · obtain ⟨c31, c32⟩ := c3
                        first
                          | (exfalso; have := HL.out; omega)
                          | skip
                            go_wp2_with fail
                            refine (IH (A ++ Z1) X2 Y2 B _ _ _ _ (by rw [HI.out]; have := HL.out; omega) (by simpa [List.append_assoc] using row) (by have := HL.out; omega) (by have := HL.out; omega) (St.Srt.app.1 HS.out.2.2.1).2.1 (St.Srt.app.1 HS.out.2.2.2).2.1 (St.VL.app.1 HV.out.1).2 (St.VL.app.1 HV.out.2).2 ?_ ?_ ?_).mono ?_
                            · rw [List.length_append, lZ1]; have := HL.out; push_cast; omega
                            · rw [List.length_append, lZ1]; have := HL.out; push_cast; omega
                            · rw [List.length_append, lZ1]; have := HL.out; push_cast; omega
                            rintro e w9 ⟨rfl, Z2, row9, sZ2, tZ2, vZ2, oth9⟩
                            have row := row9
                            replace oth := oth.trans oth9
                            clear row9 oth9
                            have HZ := Lib.hid (And.intro (St.merged o HV.out.1 HV.out.2 vZ1 vZ2 HS.out.2.2.1 HS.out.2.2.2 HS.out.1 HS.out.2.1 sZ1 sZ2 tZ1 tZ2) (St.VL.app.2 ⟨vZ1, vZ2⟩))
                            have HR := Lib.hid (And.intro row oth)
                            clear row oth sZ1 sZ2 tZ1 tZ2 vZ1 vZ2
                            go_wp2_with fail
                            all_goals (first | (exfalso; omega) | go_end0 | (simp only [Exit.inBlock, Exit.then]; refine bodyPost_ret (results_none rfl _ _ _) rfl ?_) | refine bodyPost_ret (results_none rfl _ _ _) rfl ?_)
                            all_goals exact ⟨rfl, Z1 ++ Z2, by have := HR.out.1; simpa [List.append_assoc] using this, HZ.out.1.1, by have := HE.out.1; have := HE.out.2; first | (rw [HE.out.1, HE.out.2]; exact HZ.out.1.2) | exact HZ.out.1.2, HZ.out.2, HR.out.2⟩
                      · rcases (by omega : (mid < ed ∧ ed = b) ∨ mid = ed) with ⟨c31, c32⟩ | c31
                        · have c33 : ¬ (ed : Int) < (b : Int) := by omega
                          first
                            | (exfalso; have := HL.out; omega)
                            | skip
                              obtain ⟨Z2, hZ2⟩ : ∃ Z2, Z2 = X2 ++ Y2 := ⟨_, rfl⟩
                              have sZ2 : St.Srt c Z2 := by
                                rw [hZ2]
                                rcases (by have := HL.out; omega : X2.length = 0 ∨ Y2.length = 0) with h | h
                                · rw [List.length_eq_zero_iff.1 h, List.nil_append]; exact (St.Srt.app.1 HS.out.2.2.2).2.1
                                · rw [List.length_eq_zero_iff.1 h, List.append_nil]; exact (St.Srt.app.1 HS.out.2.2.1).2.1
                              have tZ2 : St.Stb c V (X2 ++ Y2) Z2 := by rw [hZ2]; exact St.Stb.refl _
                              have vZ2 : St.VL V Z2 := by rw [hZ2]; exact St.VL.app.2 ⟨(St.VL.app.1 HV.out.1).2, (St.VL.app.1 HV.out.2).2⟩
                              have row2 : ∀ w, RowQ w g n (A ++ Z1 ++ X2 ++ Y2 ++ B) → RowQ w g n ((A ++ Z1) ++ Z2 ++ B) := fun w h => by rw [hZ2]; simpa [List.append_assoc] using h
                              replace row := row2 _ row
                              clear hZ2 row2
                              have HZ := Lib.hid (And.intro (St.merged o HV.out.1 HV.out.2 vZ1 vZ2 HS.out.2.2.1 HS.out.2.2.2 HS.out.1 HS.out.2.1 sZ1 sZ2 tZ1 tZ2) (St.VL.app.2 ⟨vZ1, vZ2⟩))
                              have HR := Lib.hid (And.intro row oth)
                              clear row oth sZ1 sZ2 tZ1 tZ2 vZ1 vZ2
                              go_wp2_with fail
                              all_goals (first | (exfalso; omega) | go_end0 | (simp only [Exit.inBlock, Exit.then]; refine bodyPost_ret (results_none rfl _ _ _) rfl ?_) | refine bodyPost_ret (results_none rfl _ _ _) rfl ?_)
                              all_goals exact ⟨rfl, Z1 ++ Z2, by have := HR.out.1; simpa [List.append_assoc] using this, HZ.out.1.1, by have := HE.out.1; have := HE.out.2; first | (rw [HE.out.1, HE.out.2]; exact HZ.out.1.2) | exact HZ.out.1.2, HZ.out.2, HR.out.2⟩
                        · have c32 : ¬ (mid : Int) < (ed : Int) := by omega
                          first
                            | (exfalso; have := HL.out; omega)
                            | skip
                              obtain ⟨Z2, hZ2⟩ : ∃ Z2, Z2 = X2 ++ Y2 := ⟨_, rfl⟩
                              have sZ2 : St.Srt c Z2 := by
                                rw [hZ2]
                                rcases (by have := HL.out; omega : X2.length = 0 ∨ Y2.length = 0) with h | h
                                · rw [List.length_eq_zero_iff.1 h, List.nil_append]; exact (St.Srt.app.1 HS.out.2.2.2).2.1
                                · rw [List.length_eq_zero_iff.1 h, List.append_nil]; exact (St.Srt.app.1 HS.out.2.2.1).2.1
                              have tZ2 : St.Stb c V (X2 ++ Y2) Z2 := by rw [hZ2]; exact St.Stb.refl _
                              have vZ2 : St.VL V Z2 := by rw [hZ2]; exact St.VL.app.2 ⟨(St.VL.app.1 HV.out.1).2, (St.VL.app.1 HV.out.2).2⟩
                              have row2 : ∀ w, RowQ w g n (A ++ Z1 ++ X2 ++ Y2 ++ B) → RowQ w g n ((A ++ Z1) ++ Z2 ++ B) := fun w h => by rw [hZ2]; simpa [List.append_assoc] using h
                              replace row := row2 _ row
                              clear hZ2 row2
                              have HZ := Lib.hid (And.intro (St.merged o HV.out.1 HV.out.2 vZ1 vZ2 HS.out.2.2.1 HS.out.2.2.2 HS.out.1 HS.out.2.1 sZ1 sZ2 tZ1 tZ2) (St.VL.app.2 ⟨vZ1, vZ2⟩))
                              have HR := Lib.hid (And.intro row oth)
                              clear row oth sZ1 sZ2 tZ1 tZ2 vZ1 vZ2
                              go_wp2_with fail
                              all_goals (first | (exfalso; omega) | go_end0 | (simp only [Exit.inBlock, Exit.then]; refine bodyPost_ret (results_none rfl _ _ _) rfl ?_) | refine bodyPost_ret (results_none rfl _ _ _) rfl ?_)
                              all_goals exact ⟨rfl, Z1 ++ Z2, by have := HR.out.1; simpa [List.append_assoc] using this, HZ.out.1.1, by have := HE.out.1; have := HE.out.2; first | (rw [HE.out.1, HE.out.2]; exact HZ.out.1.2) | exact HZ.out.1.2, HZ.out.2, HR.out.2⟩
                · rcases (by omega : (a < r ∧ r = mid) ∨ a = r) with ⟨c21, c22⟩ | c21
                  · have c23 : ¬ (r : Int) < (mid : Int) := by omega
                    first
                      | (exfalso; have := HL.out; omega)
                      | skip
                        obtain ⟨Z1, hZ1⟩ : ∃ Z1, Z1 = X1 ++ Y1 := ⟨_, rfl⟩
                        have sZ1 : St.Srt c Z1 := by
                          rw [hZ1]
                          rcases (by have := HL.out; omega : X1.length = 0 ∨ Y1.length = 0) with h | h
                          · rw [List.length_eq_zero_iff.1 h, List.nil_append]; exact (St.Srt.app.1 HS.out.2.2.2).1
                          · rw [List.length_eq_zero_iff.1 h, List.append_nil]; exact (St.Srt.app.1 HS.out.2.2.1).1
                        have tZ1 : St.Stb c V (X1 ++ Y1) Z1 := by rw [hZ1]; exact St.Stb.refl _
                        have vZ1 : St.VL V Z1 := by rw [hZ1]; exact St.VL.app.2 ⟨(St.VL.app.1 HV.out.1).1, (St.VL.app.1 HV.out.2).1⟩
                        have row1 : ∀ w, RowQ w g n (A ++ X1 ++ Y1 ++ X2 ++ Y2 ++ B) → RowQ w g n (A ++ Z1 ++ X2 ++ Y2 ++ B) := fun w h => by rw [hZ1]; simpa [List.append_assoc] using h
                        replace row := row1 _ row
                        clear hZ1 row1
                        have lZ1 : Z1.length = X1.length + Y1.length := by rw [tZ1.1, List.length_append]
                        by_cases c3 : mid < ed ∧ ed < b
                        · obtain ⟨c31, c32⟩ := c3
                          first
                            | (exfalso; have := HL.out; omega)
                            | skip
                              go_wp2_with fail
                              refine (IH (A ++ Z1) X2 Y2 B _ _ _ _ (by rw [HI.out]; have := HL.out; omega) (by simpa [List.append_assoc] using row) (by have := HL.out; omega) (by have := HL.out; omega) (St.Srt.app.1 HS.out.2.2.1).2.1 (St.Srt.app.1 HS.out.2.2.2).2.1 (St.VL.app.1 HV.out.1).2 (St.VL.app.1 HV.out.2).2 ?_ ?_ ?_).mono ?_
                              · rw [List.length_append, lZ1]; have := HL.out; push_cast; omega
                              · rw [List.length_append, lZ1]; have := HL.out; push_cast; omega
                              · rw [List.length_append, lZ1]; have := HL.out; push_cast; omega
                              rintro e w9 ⟨rfl, Z2, row9, sZ2, tZ2, vZ2, oth9⟩
                              have row := row9
                              replace oth := oth.trans oth9
                              clear row9 oth9
                              have HZ := Lib.hid (And.intro (St.merged o HV.out.1 HV.out.2 vZ1 vZ2 HS.out.2.2.1 HS.out.2.2.2 HS.out.1 HS.out.2.1 sZ1 sZ2 tZ1 tZ2) (St.VL.app.2 ⟨vZ1, vZ2⟩))
                              have HR := Lib.hid (And.intro row oth)
                              clear row oth sZ1 sZ2 tZ1 tZ2 vZ1 vZ2
                              go_wp2_with fail
                              all_goals (first | (exfalso; omega) | go_end0 | (simp only [Exit.inBlock, Exit.then]; refine bodyPost_ret (results_none rfl _ _ _) rfl ?_) | refine bodyPost_ret (results_none rfl _ _ _) rfl ?_)
                              all_goals exact ⟨rfl, Z1 ++ Z2, by have := HR.out.1; simpa [List.append_assoc] using this, HZ.out.1.1, by have := HE.out.1; have := HE.out.2; first | (rw [HE.out.1, HE.out.2]; exact HZ.out.1.2) | exact HZ.out.1.2, HZ.out.2, HR.out.2⟩
                        · rcases (by omega : (mid < ed ∧ ed = b) ∨ mid = ed) with ⟨c31, c32⟩ | c31
                          · have c33 : ¬ (ed : Int) < (b : Int) := by omega
                            first
                              | (exfalso; have := HL.out; omega)
                              | skip
                                obtain ⟨Z2, hZ2⟩ : ∃ Z2, Z2 = X2 ++ Y2 := ⟨_, rfl⟩
                                have sZ2 : St.Srt c Z2 := by
                                  rw [hZ2]
                                  rcases (by have := HL.out; omega : X2.length = 0 ∨ Y2.length = 0) with h | h
                                  · rw [List.length_eq_zero_iff.1 h, List.nil_append]; exact (St.Srt.app.1 HS.out.2.2.2).2.1
                                  · rw [List.length_eq_zero_iff.1 h, List.append_nil]; exact (St.Srt.app.1 HS.out.2.2.1).2.1
                                have tZ2 : St.Stb c V (X2 ++ Y2) Z2 := by rw [hZ2]; exact St.Stb.refl _
                                have vZ2 : St.VL V Z2 := by rw [hZ2]; exact St.VL.app.2 ⟨(St.VL.app.1 HV.out.1).2, (St.VL.app.1 HV.out.2).2⟩
                                have row2 : ∀ w, RowQ w g n (A ++ Z1 ++ X2 ++ Y2 ++ B) → RowQ w g n ((A ++ Z1) ++ Z2 ++ B) := fun w h => by rw [hZ2]; simpa [List.append_assoc] using h
                                replace row := row2 _ row
                                clear hZ2 row2
                                have HZ := Lib.hid (And.intro (St.merged o HV.out.1 HV.out.2 vZ1 vZ2 HS.out.2.2.1 HS.out.2.2.2 HS.out.1 HS.out.2.1 sZ1 sZ2 tZ1 tZ2) (St.VL.app.2 ⟨vZ1, vZ2⟩))
                                have HR := Lib.hid (And.intro row oth)
                                clear row oth sZ1 sZ2 tZ1 tZ2 vZ1 vZ2
                                go_wp2_with fail
                                all_goals (first | (exfalso; omega) | go_end0 | (simp only [Exit.inBlock, Exit.then]; refine bodyPost_ret (results_none rfl _ _ _) rfl ?_) | refine bodyPost_ret (results_none rfl _ _ _) rfl ?_)
                                all_goals exact ⟨rfl, Z1 ++ Z2, by have := HR.out.1; simpa [List.append_assoc] using this, HZ.out.1.1, by have := HE.out.1; have := HE.out.2; first | (rw [HE.out.1, HE.out.2]; exact HZ.out.1.2) | exact HZ.out.1.2, HZ.out.2, HR.out.2⟩
                          · have c32 : ¬ (mid : Int) < (ed : Int) := by omega
                            first
                              | (exfalso; have := HL.out; omega)
                              | skip
                                obtain ⟨Z2, hZ2⟩ : ∃ Z2, Z2 = X2 ++ Y2 := ⟨_, rfl⟩
                                have sZ2 : St.Srt c Z2 := by
                                  rw [hZ2]
                                  rcases (by have := HL.out; omega : X2.length = 0 ∨ Y2.length = 0) with h | h
                                  · rw [List.length_eq_zero_iff.1 h, List.nil_append]; exact (St.Srt.app.1 HS.out.2.2.2).2.1
                                  · rw [List.length_eq_zero_iff.1 h, List.append_nil]; exact (St.Srt.app.1 HS.out.2.2.1).2.1
                                have tZ2 : St.Stb c V (X2 ++ Y2) Z2 := by rw [hZ2]; exact St.Stb.refl _
                                have vZ2 : St.VL V Z2 := by rw [hZ2]; exact St.VL.app.2 ⟨(St.VL.app.1 HV.out.1).2, (St.VL.app.1 HV.out.2).2⟩
                                have row2 : ∀ w, RowQ w g n (A ++ Z1 ++ X2 ++ Y2 ++ B) → RowQ w g n ((A ++ Z1) ++ Z2 ++ B) := fun w h => by rw [hZ2]; simpa [List.append_assoc] using h
                                replace row := row2 _ row
                                clear hZ2 row2
                                have HZ := Lib.hid (And.intro (St.merged o HV.out.1 HV.out.2 vZ1 vZ2 HS.out.2.2.1 HS.out.2.2.2 HS.out.1 HS.out.2.1 sZ1 sZ2 tZ1 tZ2) (St.VL.app.2 ⟨vZ1, vZ2⟩))
                                have HR := Lib.hid (And.intro row oth)
                                clear row oth sZ1 sZ2 tZ1 tZ2 vZ1 vZ2
                                go_wp2_with fail
                                all_goals (first | (exfalso; omega) | go_end0 | (simp only [Exit.inBlock, Exit.then]; refine bodyPost_ret (results_none rfl _ _ _) rfl ?_) | refine bodyPost_ret (results_none rfl _ _ _) rfl ?_)
                                all_goals exact ⟨rfl, Z1 ++ Z2, by have := HR.out.1; simpa [List.append_assoc] using this, HZ.out.1.1, by have := HE.out.1; have := HE.out.2; first | (rw [HE.out.1, HE.out.2]; exact HZ.out.1.2) | exact HZ.out.1.2, HZ.out.2, HR.out.2⟩
                  · have c22 : ¬ (a : Int) < (r : Int) := by omega
                    first
                      | (exfalso; have := HL.out; omega)
                      | skip
                        obtain ⟨Z1, hZ1⟩ : ∃ Z1, Z1 = X1 ++ Y1 := ⟨_, rfl⟩
                        have sZ1 : St.Srt c Z1 := by
                          rw [hZ1]
                          rcases (by have := HL.out; omega : X1.length = 0 ∨ Y1.length = 0) with h | h
                          · rw [List.length_eq_zero_iff.1 h, List.nil_append]; exact (St.Srt.app.1 HS.out.2.2.2).1
                          · rw [List.length_eq_zero_iff.1 h, List.append_nil]; exact (St.Srt.app.1 HS.out.2.2.1).1
                        have tZ1 : St.Stb c V (X1 ++ Y1) Z1 := by rw [hZ1]; exact St.Stb.refl _
                        have vZ1 : St.VL V Z1 := by rw [hZ1]; exact St.VL.app.2 ⟨(St.VL.app.1 HV.out.1).1, (St.VL.app.1 HV.out.2).1⟩
                        have row1 : ∀ w, RowQ w g n (A ++ X1 ++ Y1 ++ X2 ++ Y2 ++ B) → RowQ w g n (A ++ Z1 ++ X2 ++ Y2 ++ B) := fun w h => by rw [hZ1]; simpa [List.append_assoc] using h
                        replace row := row1 _ row
                        clear hZ1 row1
                        have lZ1 : Z1.length = X1.length + Y1.length := by rw [tZ1.1, List.length_append]
                        by_cases c3 : mid < ed ∧ ed < b
                        · obtain ⟨c31, c32⟩ := c3
                          first
                            | (exfalso; have := HL.out; omega)
                            | skip
                              go_wp2_with fail
                              refine (IH (A ++ Z1) X2 Y2 B _ _ _ _ (by rw [HI.out]; have := HL.out; omega) (by simpa [List.append_assoc] using row) (by have := HL.out; omega) (by have := HL.out; omega) (St.Srt.app.1 HS.out.2.2.1).2.1 (St.Srt.app.1 HS.out.2.2.2).2.1 (St.VL.app.1 HV.out.1).2 (St.VL.app.1 HV.out.2).2 ?_ ?_ ?_).mono ?_
                              · rw [List.length_append, lZ1]; have := HL.out; push_cast; omega
                              · rw [List.length_append, lZ1]; have := HL.out; push_cast; omega
                              · rw [List.length_append, lZ1]; have := HL.out; push_cast; omega
                              rintro e w9 ⟨rfl, Z2, row9, sZ2, tZ2, vZ2, oth9⟩
                              have row := row9
                              replace oth := oth.trans oth9
                              clear row9 oth9
                              have HZ := Lib.hid (And.intro (St.merged o HV.out.1 HV.out.2 vZ1 vZ2 HS.out.2.2.1 HS.out.2.2.2 HS.out.1 HS.out.2.1 sZ1 sZ2 tZ1 tZ2) (St.VL.app.2 ⟨vZ1, vZ2⟩))
                              have HR := Lib.hid (And.intro row oth)
                              clear row oth sZ1 sZ2 tZ1 tZ2 vZ1 vZ2
                              go_wp2_with fail
                              all_goals (first | (exfalso; omega) | go_end0 | (simp only [Exit.inBlock, Exit.then]; refine bodyPost_ret (results_none rfl _ _ _) rfl ?_) | refine bodyPost_ret (results_none rfl _ _ _) rfl ?_)
                              all_goals exact ⟨rfl, Z1 ++ Z2, by have := HR.out.1; simpa [List.append_assoc] using this, HZ.out.1.1, by have := HE.out.1; have := HE.out.2; first | (rw [HE.out.1, HE.out.2]; exact HZ.out.1.2) | exact HZ.out.1.2, HZ.out.2, HR.out.2⟩
                        · rcases (by omega : (mid < ed ∧ ed = b) ∨ mid = ed) with ⟨c31, c32⟩ | c31
                          · have c33 : ¬ (ed : Int) < (b : Int) := by omega
                            first
                              | (exfalso; have := HL.out; omega)
                              | skip
                                obtain ⟨Z2, hZ2⟩ : ∃ Z2, Z2 = X2 ++ Y2 := ⟨_, rfl⟩
                                have sZ2 : St.Srt c Z2 := by
                                  rw [hZ2]
                                  rcases (by have := HL.out; omega : X2.length = 0 ∨ Y2.length = 0) with h | h
                                  · rw [List.length_eq_zero_iff.1 h, List.nil_append]; exact (St.Srt.app.1 HS.out.2.2.2).2.1
                                  · rw [List.length_eq_zero_iff.1 h, List.append_nil]; exact (St.Srt.app.1 HS.out.2.2.1).2.1
                                have tZ2 : St.Stb c V (X2 ++ Y2) Z2 := by rw [hZ2]; exact St.Stb.refl _
                                have vZ2 : St.VL V Z2 := by rw [hZ2]; exact St.VL.app.2 ⟨(St.VL.app.1 HV.out.1).2, (St.VL.app.1 HV.out.2).2⟩
                                have row2 : ∀ w, RowQ w g n (A ++ Z1 ++ X2 ++ Y2 ++ B) → RowQ w g n ((A ++ Z1) ++ Z2 ++ B) := fun w h => by rw [hZ2]; simpa [List.append_assoc] using h
                                replace row := row2 _ row
                                clear hZ2 row2
                                have HZ := Lib.hid (And.intro (St.merged o HV.out.1 HV.out.2 vZ1 vZ2 HS.out.2.2.1 HS.out.2.2.2 HS.out.1 HS.out.2.1 sZ1 sZ2 tZ1 tZ2) (St.VL.app.2 ⟨vZ1, vZ2⟩))
                                have HR := Lib.hid (And.intro row oth)
                                clear row oth sZ1 sZ2 tZ1 tZ2 vZ1 vZ2
                                go_wp2_with fail
                                all_goals (first | (exfalso; omega) | go_end0 | (simp only [Exit.inBlock, Exit.then]; refine bodyPost_ret (results_none rfl _ _ _) rfl ?_) | refine bodyPost_ret (results_none rfl _ _ _) rfl ?_)
                                all_goals exact ⟨rfl, Z1 ++ Z2, by have := HR.out.1; simpa [List.append_assoc] using this, HZ.out.1.1, by have := HE.out.1; have := HE.out.2; first | (rw [HE.out.1, HE.out.2]; exact HZ.out.1.2) | exact HZ.out.1.2, HZ.out.2, HR.out.2⟩
                          · have c32 : ¬ (mid : Int) < (ed : Int) := by omega
                            first
                              | (exfalso; have := HL.out; omega)
                              | skip
                                obtain ⟨Z2, hZ2⟩ : ∃ Z2, Z2 = X2 ++ Y2 := ⟨_, rfl⟩
                                have sZ2 : St.Srt c Z2 := by
                                  rw [hZ2]
                                  rcases (by have := HL.out; omega : X2.length = 0 ∨ Y2.length = 0) with h | h
                                  · rw [List.length_eq_zero_iff.1 h, List.nil_append]; exact (St.Srt.app.1 HS.out.2.2.2).2.1
                                  · rw [List.length_eq_zero_iff.1 h, List.append_nil]; exact (St.Srt.app.1 HS.out.2.2.1).2.1
                                have tZ2 : St.Stb c V (X2 ++ Y2) Z2 := by rw [hZ2]; exact St.Stb.refl _
                                have vZ2 : St.VL V Z2 := by rw [hZ2]; exact St.VL.app.2 ⟨(St.VL.app.1 HV.out.1).2, (St.VL.app.1 HV.out.2).2⟩
                                have row2 : ∀ w, RowQ w g n (A ++ Z1 ++ X2 ++ Y2 ++ B) → RowQ w g n ((A ++ Z1) ++ Z2 ++ B) := fun w h => by rw [hZ2]; simpa [List.append_assoc] using h
                                replace row := row2 _ row
                                clear hZ2 row2
                                have HZ := Lib.hid (And.intro (St.merged o HV.out.1 HV.out.2 vZ1 vZ2 HS.out.2.2.1 HS.out.2.2.2 HS.out.1 HS.out.2.1 sZ1 sZ2 tZ1 tZ2) (St.VL.app.2 ⟨vZ1, vZ2⟩))
                                have HR := Lib.hid (And.intro row oth)
                                clear row oth sZ1 sZ2 tZ1 tZ2 vZ1 vZ2
                                go_wp2_with fail
                                all_goals (first | (exfalso; omega) | go_end0 | (simp only [Exit.inBlock, Exit.then]; refine bodyPost_ret (results_none rfl _ _ _) rfl ?_) | refine bodyPost_ret (results_none rfl _ _ _) rfl ?_)
                                all_goals exact ⟨rfl, Z1 ++ Z2, by have := HR.out.1; simpa [List.append_assoc] using this, HZ.out.1.1, by have := HE.out.1; have := HE.out.2; first | (rw [HE.out.1, HE.out.2]; exact HZ.out.1.2) | exact HZ.out.1.2, HZ.out.2, HR.out.2⟩
  · have hd1 : decide (mid < m) = false := decide_eq_false (by omega)
    have hd2 : decide ((mid : Int) < (m : Int)) = false := decide_eq_false (by omega)
    go_wp2_with fail
    clear hd1 hd2
    have HDD := Lib.hid (And.intro d2 d3)
    clear d2 d3
    go_loopw [20, 21] (fun sv rv wr => ∃ (s r : Nat), sv = .int .i64 (s : Int) ∧ rv = .int .i64 (r : Int) ∧ lo ≤ s ∧ s ≤ r ∧ r ≤ hi ∧ qLeftOk c X Y a mid lo s ∧ qRightOk c X Y a mid hi r ∧ Below W.heap.size W wr) (fun sv rv _ => (intOf rv).toNat - (intOf sv).toNat)
    case atStart => exact ⟨lo, hi, by have := HDD.out; congr 1; omega, by have := HDD.out; congr 1; omega, Nat.le_refl _, q2, Nat.le_refl _, .inl rfl, .inl rfl, Below.refl _ _⟩
    case round =>
      obtain ⟨s, r, rfl, rfl, hs, hsr, hr1, h1, h2, B1⟩ := hrel
      by_cases hlt : s < r
      · obtain ⟨h, hh⟩ : ∃ h : Nat, (s + r) / 2 = h := ⟨_, rfl⟩
        have hhe : ((s : Int) + (r : Int)) / 2 = (h : Int) := by omega
        have k1 : s ≤ h := by omega
        have k2 : h < r := by omega
        clear hh
        have row := hr.keep B1
        obtain ⟨x, hx⟩ : ∃ x, X[h - a]? = some x := ⟨_, List.getElem?_eq_getElem (by have := HM.out; omega)⟩
        obtain ⟨y, hy⟩ : ∃ y, Y[mid - 1 - h]? = some y := ⟨_, List.getElem?_eq_getElem (by have := HM.out; have := HB.out; omega)⟩
        have hvx : V x := vXY.out.1 x (List.mem_of_getElem? hx)
        have hvy : V y := vXY.out.2 y (List.mem_of_getElem? hy)
        obtain ⟨q, hq⟩ : ∃ q : Nat, q = mid + m - 1 - h := ⟨_, rfl⟩
        have hqe : (mid : Int) + (m : Int) - 1 - (h : Int) = (q : Int) := by omega
        have hqn : q < n := by omega
        have hhn : h < n := by omega
        have p1 : PlAt wr g h x := by
          have hA := HA.out
          have hM := HM.out
          have hh := row.cell h hhn
          rw [List.getD_eq_getElem?_getD, List.append_assoc, List.append_assoc, List.getElem?_append_right (by omega), ← hA, List.getElem?_append_left (by omega), hx] at hh; exact hh
        obtain ⟨p1, p1b, p1c⟩ := p1
        have p2 : PlAt wr g q y := by
          have hA := HA.out
          have hM := HM.out
          have hB := HB.out
          have hh := row.cell q hqn
          rw [List.getD_eq_getElem?_getD, List.append_assoc, List.append_assoc, List.getElem?_append_right (by omega), List.getElem?_append_right (by omega), List.getElem?_append_left (by omega), show q - A.length - X.length = mid - 1 - h by omega, hy] at hh; exact hh
        obtain ⟨p2, p2b, p2c⟩ := p2
        have lg := row.lt
        obtain ⟨z, hz2⟩ : ∃ z, c y x = z := ⟨_, rfl⟩
        have g1 : ¬ z < 0 → ∃ x y, X[h + 1 - 1 - a]? = some x ∧ Y[mid - (h + 1)]? = some y ∧ St.le c x y := fun hneg => ⟨x, y, hx, by rw [show mid - (h + 1) = mid - 1 - h by omega]; exact hy, by rw [← hz2] at hneg; exact hneg⟩
        have g2 : z < 0 → ∃ x y, X[h - a]? = some x ∧ Y[mid - 1 - h]? = some y ∧ St.lt c y x := fun hneg => ⟨x, y, hx, hy, by rw [← hz2] at hneg; exact hneg⟩
        have HD := Lib.hid (And.intro h1 (And.intro h2 (And.intro g1 g2)))
        clear h1 h2 g1 g2 hx hy row hq IH
        go_wp2_with fail
        refine wp_region_all (fun z : BW wr.heap.size wr => z.w) (by kernel_rfl) (by kernel_rfl) (BW.start _ _) rfl ?_
        by_cases hneg : z < 0
        · repeat (go_big_quiet_step (first
            | (exact BW.call (Nat.le_refl _) _ (hC.at hz2 hvy hvx _))))
          refine wpQuiet_nil ?_
          intro z
          have hzb := B1.trans (z.below.mono B1.size)
          generalize z.w = wq at *
          go_wp2_with fail
          go_roundw
          case rel => exact ⟨s, h, rfl, rfl, hs, k1, by omega, HD.out.1, .inr (HD.out.2.2.2 hneg), hzb⟩
          case measure => simp [intOf] <;> omega
        · repeat (go_big_quiet_step (first
            | (exact BW.call (Nat.le_refl _) _ (hC.at hz2 hvy hvx _))))
          refine wpQuiet_nil ?_
          intro z
          have hzb := B1.trans (z.below.mono B1.size)
          generalize z.w = wq at *
          go_wp2_with fail
          go_roundw
          case rel => exact ⟨h + 1, r, by go_num, rfl, by omega, by omega, hr1, .inr (HD.out.2.2.1 (by omega)), HD.out.2.1, hzb⟩
          case measure => simp [intOf] <;> omega
      · obtain rfl : r = s := by omega
        obtain ⟨X1, X2, Y1, Y2, eX, eY, t1, t2, t3, t4, t5⟩ := FIN.out r hs hr1 h1 h2
        obtain ⟨ed, hed⟩ : ∃ ed : Nat, ed = mid + m - r := ⟨_, rfl⟩
        have hede : (mid : Int) + (m : Int) - (r : Int) = (ed : Int) := by omega
        have t6 : ed = m + Y1.length := by omega
        have t7 : b = ed + Y2.length := by have := HB.out; rw [eY, List.length_append] at this; omega
        have row := hr.keep B1
        rw [eX, eY] at row
        obtain ⟨vX, vY⟩ := vXY.out
        obtain ⟨sX, sY⟩ := sXY.out
        rw [eX] at vX sX
        rw [eY] at vY sY
        have hA := HA.out
        have lIH : X.length + Y.length = X1.length + X2.length + (Y1.length + Y2.length) := by rw [eX, eY, List.length_append, List.length_append]
        have oth : Oth g W wr := Oth.of_below B1
        have HS := Lib.hid (And.intro t4 (And.intro t5 (And.intro sX sY)))
        have HV := Lib.hid (And.intro vX vY)
        have HL := Lib.hid (And.intro t1 (And.intro t2 (And.intro t3 (And.intro t6 (And.intro t7 hA)))))
        have HE := Lib.hid (And.intro eX eY)
        have HI := Lib.hid lIH
        have u1 : a ≤ r := by omega
        have u2 : r ≤ m := by omega
        have u3 : r ≤ mid := by omega
        have u4 : m ≤ ed := by omega
        have u5 : mid ≤ ed := by omega
        have u6 : ed ≤ b := by omega
        clear h1 h2 hr t1 t2 t3 t4 t5 t6 t7 sX sY vX vY eX eY hA hed lIH B1
        by_cases c1 : r < m ∧ m < ed
        · obtain ⟨c11, c12⟩ := c1
          first
            | (exfalso; have := HL.out; omega)
            | skip
              go_wp2_with fail
              refine (sq_rotate g n cp _ ⟨F, rfl⟩ hn (A ++ X1) X2 Y1 (Y2 ++ B) _ (by simpa [List.append_assoc] using row) (by have := HL.out; omega) (by have := HL.out; omega) _ _ _ ?_ ?_ ?_).mono ?_
              · rw [List.length_append]; have := HL.out; push_cast; omega
              · rw [List.length_append]; have := HL.out; push_cast; omega
              · rw [List.length_append]; have := HL.out; push_cast; omega
              rintro e w7 ⟨rfl, row7, oth7⟩
              replace oth := oth.trans oth7
              replace row : RowQ w7 g n (A ++ X1 ++ Y1 ++ X2 ++ Y2 ++ B) := by simpa [List.append_assoc] using row7
              clear row7 oth7
              by_cases c2 : a < r ∧ r < mid
              · obtain ⟨c21, c22⟩ := c2
                first
                  | (exfalso; have := HL.out; omega)
                  | skip
                    go_wp2_with fail
                    all_goals try (exfalso; omega)
                    refine (IH A X1 Y1 (X2 ++ Y2 ++ B) _ _ _ _ (by rw [HI.out]; have := HL.out; omega) (by simpa [List.append_assoc] using row) (by have := HL.out; omega) (by have := HL.out; omega) (St.Srt.app.1 HS.out.2.2.1).1 (St.Srt.app.1 HS.out.2.2.2).1 (St.VL.app.1 HV.out.1).1 (St.VL.app.1 HV.out.2).1 ?_ ?_ ?_).mono ?_
                    · have := HL.out; omega
                    · have := HL.out; omega
                    · have := HL.out; omega
                    rintro e w8 ⟨rfl, Z1, row8, sZ1, tZ1, vZ1, oth8⟩
                    replace oth := oth.trans oth8
                    replace row : RowQ w8 g n (A ++ Z1 ++ X2 ++ Y2 ++ B) := by simpa [List.append_assoc] using row8
                    clear row8 oth8
                    have lZ1 : Z1.length = X1.length + Y1.length := by rw [tZ1.1, List.length_append]
                    by_cases c3 : mid < ed ∧ ed < b
                    · obtain ⟨c31, c32⟩ := c3
                      first
                        | (exfalso; have := HL.out; omega)
                        | skip
                          go_wp2_with fail
                          refine (IH (A ++ Z1) X2 Y2 B _ _ _ _ (by rw [HI.out]; have := HL.out; omega) (by simpa [List.append_assoc] using row) (by have := HL.out; omega) (by have := HL.out; omega) (St.Srt.app.1 HS.out.2.2.1).2.1 (St.Srt.app.1 HS.out.2.2.2).2.1 (St.VL.app.1 HV.out.1).2 (St.VL.app.1 HV.out.2).2 ?_ ?_ ?_).mono ?_
                          · rw [List.length_append, lZ1]; have := HL.out; push_cast; omega
                          · rw [List.length_append, lZ1]; have := HL.out; push_cast; omega
                          · rw [List.length_append, lZ1]; have := HL.out; push_cast; omega
                          rintro e w9 ⟨rfl, Z2, row9, sZ2, tZ2, vZ2, oth9⟩
                          have row := row9
                          replace oth := oth.trans oth9
                          clear row9 oth9
                          have HZ := Lib.hid (And.intro (St.merged o HV.out.1 HV.out.2 vZ1 vZ2 HS.out.2.2.1 HS.out.2.2.2 HS.out.1 HS.out.2.1 sZ1 sZ2 tZ1 tZ2) (St.VL.app.2 ⟨vZ1, vZ2⟩))
                          have HR := Lib.hid (And.intro row oth)
                          clear row oth sZ1 sZ2 tZ1 tZ2 vZ1 vZ2
                          go_wp2_with fail
                          all_goals (first | (exfalso; omega) | go_end0 | (simp only [Exit.inBlock, Exit.then]; refine bodyPost_ret (results_none rfl _ _ _) rfl ?_) | refine bodyPost_ret (results_none rfl _ _ _) rfl ?_)
                          all_goals exact ⟨rfl, Z1 ++ Z2, by have := HR.out.1; simpa [List.append_assoc] using this, HZ.out.1.1, by have := HE.out.1; have := HE.out.2; first | (rw [HE.out.1, HE.out.2]; exact HZ.out.1.2) | exact HZ.out.1.2, HZ.out.2, HR.out.2⟩
                    · rcases (by omega : (mid < ed ∧ ed = b) ∨ mid = ed) with ⟨c31, c32⟩ | c31
                      · have c33 : ¬ (ed : Int) < (b : Int) := by omega
                        first
                          | (exfalso; have := HL.out; omega)
                          | skip
                            obtain ⟨Z2, hZ2⟩ : ∃ Z2, Z2 = X2 ++ Y2 := ⟨_, rfl⟩
                            have sZ2 : St.Srt c Z2 := by
                              rw [hZ2]
                              rcases (by have := HL.out; omega : X2.length = 0 ∨ Y2.length = 0) with h | h
                              · rw [List.length_eq_zero_iff.1 h, List.nil_append]; exact (St.Srt.app.1 HS.out.2.2.2).2.1
                              · rw [List.length_eq_zero_iff.1 h, List.append_nil]; exact (St.Srt.app.1 HS.out.2.2.1).2.1
                            have tZ2 : St.Stb c V (X2 ++ Y2) Z2 := by rw [hZ2]; exact St.Stb.refl _
                            have vZ2 : St.VL V Z2 := by rw [hZ2]; exact St.VL.app.2 ⟨(St.VL.app.1 HV.out.1).2, (St.VL.app.1 HV.out.2).2⟩
                            have row2 : ∀ w, RowQ w g n (A ++ Z1 ++ X2 ++ Y2 ++ B) → RowQ w g n ((A ++ Z1) ++ Z2 ++ B) := fun w h => by rw [hZ2]; simpa [List.append_assoc] using h
                            replace row := row2 _ row
                            clear hZ2 row2
                            have HZ := Lib.hid (And.intro (St.merged o HV.out.1 HV.out.2 vZ1 vZ2 HS.out.2.2.1 HS.out.2.2.2 HS.out.1 HS.out.2.1 sZ1 sZ2 tZ1 tZ2) (St.VL.app.2 ⟨vZ1, vZ2⟩))
                            have HR := Lib.hid (And.intro row oth)
                            clear row oth sZ1 sZ2 tZ1 tZ2 vZ1 vZ2
                            go_wp2_with fail
                            all_goals (first | (exfalso; omega) | go_end0 | (simp only [Exit.inBlock, Exit.then]; refine bodyPost_ret (results_none rfl _ _ _) rfl ?_) | refine bodyPost_ret (results_none rfl _ _ _) rfl ?_)
                            all_goals exact ⟨rfl, Z1 ++ Z2, by have := HR.out.1; simpa [List.append_assoc] using this, HZ.out.1.1, by have := HE.out.1; have := HE.out.2; first | (rw [HE.out.1, HE.out.2]; exact HZ.out.1.2) | exact HZ.out.1.2, HZ.out.2, HR.out.2⟩
                      · have c32 : ¬ (mid : Int) < (ed : Int) := by omega
                        first
                          | (exfalso; have := HL.out; omega)
                          | skip
                            obtain ⟨Z2, hZ2⟩ : ∃ Z2, Z2 = X2 ++ Y2 := ⟨_, rfl⟩
                            have sZ2 : St.Srt c Z2 := by
                              rw [hZ2]
                              rcases (by have := HL.out; omega : X2.length = 0 ∨ Y2.length = 0) with h | h
                              · rw [List.length_eq_zero_iff.1 h, List.nil_append]; exact (St.Srt.app.1 HS.out.2.2.2).2.1
                              · rw [List.length_eq_zero_iff.1 h, List.append_nil]; exact (St.Srt.app.1 HS.out.2.2.1).2.1
                            have tZ2 : St.Stb c V (X2 ++ Y2) Z2 := by rw [hZ2]; exact St.Stb.refl _
                            have vZ2 : St.VL V Z2 := by rw [hZ2]; exact St.VL.app.2 ⟨(St.VL.app.1 HV.out.1).2, (St.VL.app.1 HV.out.2).2⟩
                            have row2 : ∀ w, RowQ w g n (A ++ Z1 ++ X2 ++ Y2 ++ B) → RowQ w g n ((A ++ Z1) ++ Z2 ++ B) := fun w h => by rw [hZ2]; simpa [List.append_assoc] using h
                            replace row := row2 _ row
                            clear hZ2 row2
                            have HZ := Lib.hid (And.intro (St.merged o HV.out.1 HV.out.2 vZ1 vZ2 HS.out.2.2.1 HS.out.2.2.2 HS.out.1 HS.out.2.1 sZ1 sZ2 tZ1 tZ2) (St.VL.app.2 ⟨vZ1, vZ2⟩))
                            have HR := Lib.hid (And.intro row oth)
                            clear row oth sZ1 sZ2 tZ1 tZ2 vZ1 vZ2
                            go_wp2_with fail
                            all_goals (first | (exfalso; omega) | go_end0 | (simp only [Exit.inBlock, Exit.then]; refine bodyPost_ret (results_none rfl _ _ _) rfl ?_) | refine bodyPost_ret (results_none rfl _ _ _) rfl ?_)
                            all_goals exact ⟨rfl, Z1 ++ Z2, by have := HR.out.1; simpa [List.append_assoc] using this, HZ.out.1.1, by have := HE.out.1; have := HE.out.2; first | (rw [HE.out.1, HE.out.2]; exact HZ.out.1.2) | exact HZ.out.1.2, HZ.out.2, HR.out.2⟩
              · rcases (by omega : (a < r ∧ r = mid) ∨ a = r) with ⟨c21, c22⟩ | c21
                · have c23 : ¬ (r : Int) < (mid : Int) := by omega
                  first
                    | (exfalso; have := HL.out; omega)
                    | skip
                      obtain ⟨Z1, hZ1⟩ : ∃ Z1, Z1 = X1 ++ Y1 := ⟨_, rfl⟩
                      have sZ1 : St.Srt c Z1 := by
                        rw [hZ1]
                        rcases (by have := HL.out; omega : X1.length = 0 ∨ Y1.length = 0) with h | h
                        · rw [List.length_eq_zero_iff.1 h, List.nil_append]; exact (St.Srt.app.1 HS.out.2.2.2).1
                        · rw [List.length_eq_zero_iff.1 h, List.append_nil]; exact (St.Srt.app.1 HS.out.2.2.1).1
                      have tZ1 : St.Stb c V (X1 ++ Y1) Z1 := by rw [hZ1]; exact St.Stb.refl _
                      have vZ1 : St.VL V Z1 := by rw [hZ1]; exact St.VL.app.2 ⟨(St.VL.app.1 HV.out.1).1, (St.VL.app.1 HV.out.2).1⟩
                      have row1 : ∀ w, RowQ w g n (A ++ X1 ++ Y1 ++ X2 ++ Y2 ++ B) → RowQ w g n (A ++ Z1 ++ X2 ++ Y2 ++ B) := fun w h => by rw [hZ1]; simpa [List.append_assoc] using h
                      replace row := row1 _ row
                      clear hZ1 row1
                      have lZ1 : Z1.length = X1.length + Y1.length := by rw [tZ1.1, List.length_append]
                      by_cases c3 : mid < ed ∧ ed < b
                      · obtain ⟨c31, c32⟩ := c3
                        first
                          | (exfalso; have := HL.out; omega)
                          | skip
                            go_wp2_with fail
                            refine (IH (A ++ Z1) X2 Y2 B _ _ _ _ (by rw [HI.out]; have := HL.out; omega) (by simpa [List.append_assoc] using row) (by have := HL.out; omega) (by have := HL.out; omega) (St.Srt.app.1 HS.out.2.2.1).2.1 (St.Srt.app.1 HS.out.2.2.2).2.1 (St.VL.app.1 HV.out.1).2 (St.VL.app.1 HV.out.2).2 ?_ ?_ ?_).mono ?_
                            · rw [List.length_append, lZ1]; have := HL.out; push_cast; omega
                            · rw [List.length_append, lZ1]; have := HL.out; push_cast; omega
                            · rw [List.length_append, lZ1]; have := HL.out; push_cast; omega
                            rintro e w9 ⟨rfl, Z2, row9, sZ2, tZ2, vZ2, oth9⟩
                            have row := row9
                            replace oth := oth.trans oth9
                            clear row9 oth9
                            have HZ := Lib.hid (And.intro (St.merged o HV.out.1 HV.out.2 vZ1 vZ2 HS.out.2.2.1 HS.out.2.2.2 HS.out.1 HS.out.2.1 sZ1 sZ2 tZ1 tZ2) (St.VL.app.2 ⟨vZ1, vZ2⟩))
                            have HR := Lib.hid (And.intro row oth)
                            clear row oth sZ1 sZ2 tZ1 tZ2 vZ1 vZ2
                            go_wp2_with fail
                            all_goals (first | (exfalso; omega) | go_end0 | (simp only [Exit.inBlock, Exit.then]; refine bodyPost_ret (results_none rfl _ _ _) rfl ?_) | refine bodyPost_ret (results_none rfl _ _ _) rfl ?_)
                            all_goals exact ⟨rfl, Z1 ++ Z2, by have := HR.out.1; simpa [List.append_assoc] using this, HZ.out.1.1, by have := HE.out.1; have := HE.out.2; first | (rw [HE.out.1, HE.out.2]; exact HZ.out.1.2) | exact HZ.out.1.2, HZ.out.2, HR.out.2⟩
                      · rcases (by omega : (mid < ed ∧ ed = b) ∨ mid = ed) with ⟨c31, c32⟩ | c31
                        · have c33 : ¬ (ed : Int) < (b : Int) := by omega
                          first
                            | (exfalso; have := HL.out; omega)
                            | skip
                              obtain ⟨Z2, hZ2⟩ : ∃ Z2, Z2 = X2 ++ Y2 := ⟨_, rfl⟩
                              have sZ2 : St.Srt c Z2 := by
                                rw [hZ2]
                                rcases (by have := HL.out; omega : X2.length = 0 ∨ Y2.length = 0) with h | h
                                · rw [List.length_eq_zero_iff.1 h, List.nil_append]; exact (St.Srt.app.1 HS.out.2.2.2).2.1
                                · rw [List.length_eq_zero_iff.1 h, List.append_nil]; exact (St.Srt.app.1 HS.out.2.2.1).2.1
                              have tZ2 : St.Stb c V (X2 ++ Y2) Z2 := by rw [hZ2]; exact St.Stb.refl _
                              have vZ2 : St.VL V Z2 := by rw [hZ2]; exact St.VL.app.2 ⟨(St.VL.app.1 HV.out.1).2, (St.VL.app.1 HV.out.2).2⟩
                              have row2 : ∀ w, RowQ w g n (A ++ Z1 ++ X2 ++ Y2 ++ B) → RowQ w g n ((A ++ Z1) ++ Z2 ++ B) := fun w h => by rw [hZ2]; simpa [List.append_assoc] using h
                              replace row := row2 _ row
                              clear hZ2 row2
                              have HZ := Lib.hid (And.intro (St.merged o HV.out.1 HV.out.2 vZ1 vZ2 HS.out.2.2.1 HS.out.2.2.2 HS.out.1 HS.out.2.1 sZ1 sZ2 tZ1 tZ2) (St.VL.app.2 ⟨vZ1, vZ2⟩))
                              have HR := Lib.hid (And.intro row oth)
                              clear row oth sZ1 sZ2 tZ1 tZ2 vZ1 vZ2
                              go_wp2_with fail
                              all_goals (first | (exfalso; omega) | go_end0 | (simp only [Exit.inBlock, Exit.then]; refine bodyPost_ret (results_none rfl _ _ _) rfl ?_) | refine bodyPost_ret (results_none rfl _ _ _) rfl ?_)
                              all_goals exact ⟨rfl, Z1 ++ Z2, by have := HR.out.1; simpa [List.append_assoc] using this, HZ.out.1.1, by have := HE.out.1; have := HE.out.2; first | (rw [HE.out.1, HE.out.2]; exact HZ.out.1.2) | exact HZ.out.1.2, HZ.out.2, HR.out.2⟩
                        · have c32 : ¬ (mid : Int) < (ed : Int) := by omega
                          first
                            | (exfalso; have := HL.out; omega)
                            | skip
                              obtain ⟨Z2, hZ2⟩ : ∃ Z2, Z2 = X2 ++ Y2 := ⟨_, rfl⟩
                              have sZ2 : St.Srt c Z2 := by
                                rw [hZ2]
                                rcases (by have := HL.out; omega : X2.length = 0 ∨ Y2.length = 0) with h | h
                                · rw [List.length_eq_zero_iff.1 h, List.nil_append]; exact (St.Srt.app.1 HS.out.2.2.2).2.1
                                · rw [List.length_eq_zero_iff.1 h, List.append_nil]; exact (St.Srt.app.1 HS.out.2.2.1).2.1
                              have tZ2 : St.Stb c V (X2 ++ Y2) Z2 := by rw [hZ2]; exact St.Stb.refl _
                              have vZ2 : St.VL V Z2 := by rw [hZ2]; exact St.VL.app.2 ⟨(St.VL.app.1 HV.out.1).2, (St.VL.app.1 HV.out.2).2⟩
                              have row2 : ∀ w, RowQ w g n (A ++ Z1 ++ X2 ++ Y2 ++ B) → RowQ w g n ((A ++ Z1) ++ Z2 ++ B) := fun w h => by rw [hZ2]; simpa [List.append_assoc] using h
                              replace row := row2 _ row
                              clear hZ2 row2
                              have HZ := Lib.hid (And.intro (St.merged o HV.out.1 HV.out.2 vZ1 vZ2 HS.out.2.2.1 HS.out.2.2.2 HS.out.1 HS.out.2.1 sZ1 sZ2 tZ1 tZ2) (St.VL.app.2 ⟨vZ1, vZ2⟩))
                              have HR := Lib.hid (And.intro row oth)
                              clear row oth sZ1 sZ2 tZ1 tZ2 vZ1 vZ2
                              go_wp2_with fail
                              all_goals (first | (exfalso; omega) | go_end0 | (simp only [Exit.inBlock, Exit.then]; refine bodyPost_ret (results_none rfl _ _ _) rfl ?_) | refine bodyPost_ret (results_none rfl _ _ _) rfl ?_)
                              all_goals exact ⟨rfl, Z1 ++ Z2, by have := HR.out.1; simpa [List.append_assoc] using this, HZ.out.1.1, by have := HE.out.1; have := HE.out.2; first | (rw [HE.out.1, HE.out.2]; exact HZ.out.1.2) | exact HZ.out.1.2, HZ.out.2, HR.out.2⟩
                · have c22 : ¬ (a : Int) < (r : Int) := by omega
                  first
                    | (exfalso; have := HL.out; omega)
                    | skip
                      obtain ⟨Z1, hZ1⟩ : ∃ Z1, Z1 = X1 ++ Y1 := ⟨_, rfl⟩
                      have sZ1 : St.Srt c Z1 := by
                        rw [hZ1]
                        rcases (by have := HL.out; omega : X1.length = 0 ∨ Y1.length = 0) with h | h
                        · rw [List.length_eq_zero_iff.1 h, List.nil_append]; exact (St.Srt.app.1 HS.out.2.2.2).1
                        · rw [List.length_eq_zero_iff.1 h, List.append_nil]; exact (St.Srt.app.1 HS.out.2.2.1).1
                      have tZ1 : St.Stb c V (X1 ++ Y1) Z1 := by rw [hZ1]; exact St.Stb.refl _
                      have vZ1 : St.VL V Z1 := by rw [hZ1]; exact St.VL.app.2 ⟨(St.VL.app.1 HV.out.1).1, (St.VL.app.1 HV.out.2).1⟩
                      have row1 : ∀ w, RowQ w g n (A ++ X1 ++ Y1 ++ X2 ++ Y2 ++ B) → RowQ w g n (A ++ Z1 ++ X2 ++ Y2 ++ B) := fun w h => by rw [hZ1]; simpa [List.append_assoc] using h
                      replace row := row1 _ row
                      clear hZ1 row1
                      have lZ1 : Z1.length = X1.length + Y1.length := by rw [tZ1.1, List.length_append]
                      by_cases c3 : mid < ed ∧ ed < b
                      · obtain ⟨c31, c32⟩ := c3
                        first
                          | (exfalso; have := HL.out; omega)
                          | skip
                            go_wp2_with fail
                            refine (IH (A ++ Z1) X2 Y2 B _ _ _ _ (by rw [HI.out]; have := HL.out; omega) (by simpa [List.append_assoc] using row) (by have := HL.out; omega) (by have := HL.out; omega) (St.Srt.app.1 HS.out.2.2.1).2.1 (St.Srt.app.1 HS.out.2.2.2).2.1 (St.VL.app.1 HV.out.1).2 (St.VL.app.1 HV.out.2).2 ?_ ?_ ?_).mono ?_
                            · rw [List.length_append, lZ1]; have := HL.out; push_cast; omega
                            · rw [List.length_append, lZ1]; have := HL.out; push_cast; omega
                            · rw [List.length_append, lZ1]; have := HL.out; push_cast; omega
                            rintro e w9 ⟨rfl, Z2, row9, sZ2, tZ2, vZ2, oth9⟩
                            have row := row9
                            replace oth := oth.trans oth9
                            clear row9 oth9
                            have HZ := Lib.hid (And.intro (St.merged o HV.out.1 HV.out.2 vZ1 vZ2 HS.out.2.2.1 HS.out.2.2.2 HS.out.1 HS.out.2.1 sZ1 sZ2 tZ1 tZ2) (St.VL.app.2 ⟨vZ1, vZ2⟩))
                            have HR := Lib.hid (And.intro row oth)
                            clear row oth sZ1 sZ2 tZ1 tZ2 vZ1 vZ2
                            go_wp2_with fail
                            all_goals (first | (exfalso; omega) | go_end0 | (simp only [Exit.inBlock, Exit.then]; refine bodyPost_ret (results_none rfl _ _ _) rfl ?_) | refine bodyPost_ret (results_none rfl _ _ _) rfl ?_)
                            all_goals exact ⟨rfl, Z1 ++ Z2, by have := HR.out.1; simpa [List.append_assoc] using this, HZ.out.1.1, by have := HE.out.1; have := HE.out.2; first | (rw [HE.out.1, HE.out.2]; exact HZ.out.1.2) | exact HZ.out.1.2, HZ.out.2, HR.out.2⟩
                      · rcases (by omega : (mid < ed ∧ ed = b) ∨ mid = ed) with ⟨c31, c32⟩ | c31
                        · have c33 : ¬ (ed : Int) < (b : Int) := by omega
                          first
                            | (exfalso; have := HL.out; omega)
                            | skip
                              obtain ⟨Z2, hZ2⟩ : ∃ Z2, Z2 = X2 ++ Y2 := ⟨_, rfl⟩
                              have sZ2 : St.Srt c Z2 := by
                                rw [hZ2]
                                rcases (by have := HL.out; omega : X2.length = 0 ∨ Y2.length = 0) with h | h
                                · rw [List.length_eq_zero_iff.1 h, List.nil_append]; exact (St.Srt.app.1 HS.out.2.2.2).2.1
                                · rw [List.length_eq_zero_iff.1 h, List.append_nil]; exact (St.Srt.app.1 HS.out.2.2.1).2.1
                              have tZ2 : St.Stb c V (X2 ++ Y2) Z2 := by rw [hZ2]; exact St.Stb.refl _
                              have vZ2 : St.VL V Z2 := by rw [hZ2]; exact St.VL.app.2 ⟨(St.VL.app.1 HV.out.1).2, (St.VL.app.1 HV.out.2).2⟩
                              have row2 : ∀ w, RowQ w g n (A ++ Z1 ++ X2 ++ Y2 ++ B) → RowQ w g n ((A ++ Z1) ++ Z2 ++ B) := fun w h => by rw [hZ2]; simpa [List.append_assoc] using h
                              replace row := row2 _ row
                              clear hZ2 row2
                              have HZ := Lib.hid (And.intro (St.merged o HV.out.1 HV.out.2 vZ1 vZ2 HS.out.2.2.1 HS.out.2.2.2 HS.out.1 HS.out.2.1 sZ1 sZ2 tZ1 tZ2) (St.VL.app.2 ⟨vZ1, vZ2⟩))
                              have HR := Lib.hid (And.intro row oth)
                              clear row oth sZ1 sZ2 tZ1 tZ2 vZ1 vZ2
                              go_wp2_with fail
                              all_goals (first | (exfalso; omega) | go_end0 | (simp only [Exit.inBlock, Exit.then]; refine bodyPost_ret (results_none rfl _ _ _) rfl ?_) | refine bodyPost_ret (results_none rfl _ _ _) rfl ?_)
                              all_goals exact ⟨rfl, Z1 ++ Z2, by have := HR.out.1; simpa [List.append_assoc] using this, HZ.out.1.1, by have := HE.out.1; have := HE.out.2; first | (rw [HE.out.1, HE.out.2]; exact HZ.out.1.2) | exact HZ.out.1.2, HZ.out.2, HR.out.2⟩
                        · have c32 : ¬ (mid : Int) < (ed : Int) := by omega
                          first
                            | (exfalso; have := HL.out; omega)
                            | skip
                              obtain ⟨Z2, hZ2⟩ : ∃ Z2, Z2 = X2 ++ Y2 := ⟨_, rfl⟩
                              have sZ2 : St.Srt c Z2 := by
                                rw [hZ2]
                                rcases (by have := HL.out; omega : X2.length = 0 ∨ Y2.length = 0) with h | h
                                · rw [List.length_eq_zero_iff.1 h, List.nil_append]; exact (St.Srt.app.1 HS.out.2.2.2).2.1
                                · rw [List.length_eq_zero_iff.1 h, List.append_nil]; exact (St.Srt.app.1 HS.out.2.2.1).2.1
                              have tZ2 : St.Stb c V (X2 ++ Y2) Z2 := by rw [hZ2]; exact St.Stb.refl _
                              have vZ2 : St.VL V Z2 := by rw [hZ2]; exact St.VL.app.2 ⟨(St.VL.app.1 HV.out.1).2, (St.VL.app.1 HV.out.2).2⟩
                              have row2 : ∀ w, RowQ w g n (A ++ Z1 ++ X2 ++ Y2 ++ B) → RowQ w g n ((A ++ Z1) ++ Z2 ++ B) := fun w h => by rw [hZ2]; simpa [List.append_assoc] using h
                              replace row := row2 _ row
                              clear hZ2 row2
                              have HZ := Lib.hid (And.intro (St.merged o HV.out.1 HV.out.2 vZ1 vZ2 HS.out.2.2.1 HS.out.2.2.2 HS.out.1 HS.out.2.1 sZ1 sZ2 tZ1 tZ2) (St.VL.app.2 ⟨vZ1, vZ2⟩))
                              have HR := Lib.hid (And.intro row oth)
                              clear row oth sZ1 sZ2 tZ1 tZ2 vZ1 vZ2
                              go_wp2_with fail
                              all_goals (first | (exfalso; omega) | go_end0 | (simp only [Exit.inBlock, Exit.then]; refine bodyPost_ret (results_none rfl _ _ _) rfl ?_) | refine bodyPost_ret (results_none rfl _ _ _) rfl ?_)
                              all_goals exact ⟨rfl, Z1 ++ Z2, by have := HR.out.1; simpa [List.append_assoc] using this, HZ.out.1.1, by have := HE.out.1; have := HE.out.2; first | (rw [HE.out.1, HE.out.2]; exact HZ.out.1.2) | exact HZ.out.1.2, HZ.out.2, HR.out.2⟩
        · rcases (by omega : (r < m ∧ m = ed) ∨ r = m) with ⟨c11, c12⟩ | c11
          · have c13 : ¬ (m : Int) < (ed : Int) := by omega
            first
              | (exfalso; have := HL.out; omega)
              | skip
                have row0 : ∀ w, RowQ w g n (A ++ (X1 ++ X2) ++ (Y1 ++ Y2) ++ B) → RowQ w g n (A ++ X1 ++ Y1 ++ X2 ++ Y2 ++ B) := fun w hw => by
                  rcases (by have := HL.out; omega : X2.length = 0 ∨ Y1.length = 0) with h | h
                  · rw [List.length_eq_zero_iff.1 h] at hw ⊢; simpa [List.append_assoc] using hw
                  · rw [List.length_eq_zero_iff.1 h] at hw ⊢; simpa [List.append_assoc] using hw
                replace row := row0 _ row
                clear row0
                by_cases c2 : a < r ∧ r < mid
                · obtain ⟨c21, c22⟩ := c2
                  first
                    | (exfalso; have := HL.out; omega)
                    | skip
                      go_wp2_with fail
                      all_goals try (exfalso; omega)
                      refine (IH A X1 Y1 (X2 ++ Y2 ++ B) _ _ _ _ (by rw [HI.out]; have := HL.out; omega) (by simpa [List.append_assoc] using row) (by have := HL.out; omega) (by have := HL.out; omega) (St.Srt.app.1 HS.out.2.2.1).1 (St.Srt.app.1 HS.out.2.2.2).1 (St.VL.app.1 HV.out.1).1 (St.VL.app.1 HV.out.2).1 ?_ ?_ ?_).mono ?_
                      · have := HL.out; omega
                      · have := HL.out; omega
                      · have := HL.out; omega
                      rintro e w8 ⟨rfl, Z1, row8, sZ1, tZ1, vZ1, oth8⟩
                      replace oth := oth.trans oth8
                      replace row : RowQ w8 g n (A ++ Z1 ++ X2 ++ Y2 ++ B) := by simpa [List.append_assoc] using row8
                      clear row8 oth8
                      have lZ1 : Z1.length = X1.length + Y1.length := by rw [tZ1.1, List.length_append]
                      by_cases c3 : mid < ed ∧ ed < b
                      · obtain ⟨c31, c32⟩ := c3
                        first
                          | (exfalso; have := HL.out; omega)
                          | skip
                            go_wp2_with fail
                            refine (IH (A ++ Z1) X2 Y2 B _ _ _ _ (by rw [HI.out]; have := HL.out; omega) (by simpa [List.append_assoc] using row) (by have := HL.out; omega) (by have := HL.out; omega) (St.Srt.app.1 HS.out.2.2.1).2.1 (St.Srt.app.1 HS.out.2.2.2).2.1 (St.VL.app.1 HV.out.1).2 (St.VL.app.1 HV.out.2).2 ?_ ?_ ?_).mono ?_
                            · rw [List.length_append, lZ1]; have := HL.out; push_cast; omega
                            · rw [List.length_append, lZ1]; have := HL.out; push_cast; omega
                            · rw [List.length_append, lZ1]; have := HL.out; push_cast; omega
                            rintro e w9 ⟨rfl, Z2, row9, sZ2, tZ2, vZ2, oth9⟩
                            have row := row9
                            replace oth := oth.trans oth9
                            clear row9 oth9
                            have HZ := Lib.hid (And.intro (St.merged o HV.out.1 HV.out.2 vZ1 vZ2 HS.out.2.2.1 HS.out.2.2.2 HS.out.1 HS.out.2.1 sZ1 sZ2 tZ1 tZ2) (St.VL.app.2 ⟨vZ1, vZ2⟩))
                            have HR := Lib.hid (And.intro row oth)
                            clear row oth sZ1 sZ2 tZ1 tZ2 vZ1 vZ2
                            go_wp2_with fail
                            all_goals (first | (exfalso; omega) | go_end0 | (simp only [Exit.inBlock, Exit.then]; refine bodyPost_ret (results_none rfl _ _ _) rfl ?_) | refine bodyPost_ret (results_none rfl _ _ _) rfl ?_)
                            all_goals exact ⟨rfl, Z1 ++ Z2, by have := HR.out.1; simpa [List.append_assoc] using this, HZ.out.1.1, by have := HE.out.1; have := HE.out.2; first | (rw [HE.out.1, HE.out.2]; exact HZ.out.1.2) | exact HZ.out.1.2, HZ.out.2, HR.out.2⟩
                      · rcases (by omega : (mid < ed ∧ ed = b) ∨ mid = ed) with ⟨c31, c32⟩ | c31
                        · have c33 : ¬ (ed : Int) < (b : Int) := by omega
                          first
                            | (exfalso; have := HL.out; omega)
                            | skip
                              obtain ⟨Z2, hZ2⟩ : ∃ Z2, Z2 = X2 ++ Y2 := ⟨_, rfl⟩
                              have sZ2 : St.Srt c Z2 := by
                                rw [hZ2]
                                rcases (by have := HL.out; omega : X2.length = 0 ∨ Y2.length = 0) with h | h
                                · rw [List.length_eq_zero_iff.1 h, List.nil_append]; exact (St.Srt.app.1 HS.out.2.2.2).2.1
                                · rw [List.length_eq_zero_iff.1 h, List.append_nil]; exact (St.Srt.app.1 HS.out.2.2.1).2.1
                              have tZ2 : St.Stb c V (X2 ++ Y2) Z2 := by rw [hZ2]; exact St.Stb.refl _
                              have vZ2 : St.VL V Z2 := by rw [hZ2]; exact St.VL.app.2 ⟨(St.VL.app.1 HV.out.1).2, (St.VL.app.1 HV.out.2).2⟩
                              have row2 : ∀ w, RowQ w g n (A ++ Z1 ++ X2 ++ Y2 ++ B) → RowQ w g n ((A ++ Z1) ++ Z2 ++ B) := fun w h => by rw [hZ2]; simpa [List.append_assoc] using h
                              replace row := row2 _ row
                              clear hZ2 row2
                              have HZ := Lib.hid (And.intro (St.merged o HV.out.1 HV.out.2 vZ1 vZ2 HS.out.2.2.1 HS.out.2.2.2 HS.out.1 HS.out.2.1 sZ1 sZ2 tZ1 tZ2) (St.VL.app.2 ⟨vZ1, vZ2⟩))
                              have HR := Lib.hid (And.intro row oth)
                              clear row oth sZ1 sZ2 tZ1 tZ2 vZ1 vZ2
                              go_wp2_with fail
                              all_goals (first | (exfalso; omega) | go_end0 | (simp only [Exit.inBlock, Exit.then]; refine bodyPost_ret (results_none rfl _ _ _) rfl ?_) | refine bodyPost_ret (results_none rfl _ _ _) rfl ?_)
                              all_goals exact ⟨rfl, Z1 ++ Z2, by have := HR.out.1; simpa [List.append_assoc] using this, HZ.out.1.1, by have := HE.out.1; have := HE.out.2; first | (rw [HE.out.1, HE.out.2]; exact HZ.out.1.2) | exact HZ.out.1.2, HZ.out.2, HR.out.2⟩
                        · have c32 : ¬ (mid : Int) < (ed : Int) := by omega
                          first
                            | (exfalso; have := HL.out; omega)
                            | skip
                              obtain ⟨Z2, hZ2⟩ : ∃ Z2, Z2 = X2 ++ Y2 := ⟨_, rfl⟩
                              have sZ2 : St.Srt c Z2 := by
                                rw [hZ2]
                                rcases (by have := HL.out; omega : X2.length = 0 ∨ Y2.length = 0) with h | h
                                · rw [List.length_eq_zero_iff.1 h, List.nil_append]; exact (St.Srt.app.1 HS.out.2.2.2).2.1
                                · rw [List.length_eq_zero_iff.1 h, List.append_nil]; exact (St.Srt.app.1 HS.out.2.2.1).2.1
                              have tZ2 : St.Stb c V (X2 ++ Y2) Z2 := by rw [hZ2]; exact St.Stb.refl _
                              have vZ2 : St.VL V Z2 := by rw [hZ2]; exact St.VL.app.2 ⟨(St.VL.app.1 HV.out.1).2, (St.VL.app.1 HV.out.2).2⟩
                              have row2 : ∀ w, RowQ w g n (A ++ Z1 ++ X2 ++ Y2 ++ B) → RowQ w g n ((A ++ Z1) ++ Z2 ++ B) := fun w h => by rw [hZ2]; simpa [List.append_assoc] using h
                              replace row := row2 _ row
                              clear hZ2 row2
                              have HZ := Lib.hid (And.intro (St.merged o HV.out.1 HV.out.2 vZ1 vZ2 HS.out.2.2.1 HS.out.2.2.2 HS.out.1 HS.out.2.1 sZ1 sZ2 tZ1 tZ2) (St.VL.app.2 ⟨vZ1, vZ2⟩))
                              have HR := Lib.hid (And.intro row oth)
                              clear row oth sZ1 sZ2 tZ1 tZ2 vZ1 vZ2
                              go_wp2_with fail
                              all_goals (first | (exfalso; omega) | go_end0 | (simp only [Exit.inBlock, Exit.then]; refine bodyPost_ret (results_none rfl _ _ _) rfl ?_) | refine bodyPost_ret (results_none rfl _ _ _) rfl ?_)
                              all_goals exact ⟨rfl, Z1 ++ Z2, by have := HR.out.1; simpa [List.append_assoc] using this, HZ.out.1.1, by have := HE.out.1; have := HE.out.2; first | (rw [HE.out.1, HE.out.2]; exact HZ.out.1.2) | exact HZ.out.1.2, HZ.out.2, HR.out.2⟩
                · rcases (by omega : (a < r ∧ r = mid) ∨ a = r) with ⟨c21, c22⟩ | c21
                  · have c23 : ¬ (r : Int) < (mid : Int) := by omega
                    first
                      | (exfalso; have := HL.out; omega)
                      | skip
                        obtain ⟨Z1, hZ1⟩ : ∃ Z1, Z1 = X1 ++ Y1 := ⟨_, rfl⟩
                        have sZ1 : St.Srt c Z1 := by
                          rw [hZ1]
                          rcases (by have := HL.out; omega : X1.length = 0 ∨ Y1.length = 0) with h | h
                          · rw [List.length_eq_zero_iff.1 h, List.nil_append]; exact (St.Srt.app.1 HS.out.2.2.2).1
                          · rw [List.length_eq_zero_iff.1 h, List.append_nil]; exact (St.Srt.app.1 HS.out.2.2.1).1
                        have tZ1 : St.Stb c V (X1 ++ Y1) Z1 := by rw [hZ1]; exact St.Stb.refl _
                        have vZ1 : St.VL V Z1 := by rw [hZ1]; exact St.VL.app.2 ⟨(St.VL.app.1 HV.out.1).1, (St.VL.app.1 HV.out.2).1⟩
                        have row1 : ∀ w, RowQ w g n (A ++ X1 ++ Y1 ++ X2 ++ Y2 ++ B) → RowQ w g n (A ++ Z1 ++ X2 ++ Y2 ++ B) := fun w h => by rw [hZ1]; simpa [List.append_assoc] using h
                        replace row := row1 _ row
                        clear hZ1 row1
                        have lZ1 : Z1.length = X1.length + Y1.length := by rw [tZ1.1, List.length_append]
                        by_cases c3 : mid < ed ∧ ed < b
                        · obtain ⟨c31, c32⟩ := c3
                          first
                            | (exfalso; have := HL.out; omega)
                            | skip
                              go_wp2_with fail
                              refine (IH (A ++ Z1) X2 Y2 B _ _ _ _ (by rw [HI.out]; have := HL.out; omega) (by simpa [List.append_assoc] using row) (by have := HL.out; omega) (by have := HL.out; omega) (St.Srt.app.1 HS.out.2.2.1).2.1 (St.Srt.app.1 HS.out.2.2.2).2.1 (St.VL.app.1 HV.out.1).2 (St.VL.app.1 HV.out.2).2 ?_ ?_ ?_).mono ?_
                              · rw [List.length_append, lZ1]; have := HL.out; push_cast; omega
                              · rw [List.length_append, lZ1]; have := HL.out; push_cast; omega
                              · rw [List.length_append, lZ1]; have := HL.out; push_cast; omega
                              rintro e w9 ⟨rfl, Z2, row9, sZ2, tZ2, vZ2, oth9⟩
                              have row := row9
                              replace oth := oth.trans oth9
                              clear row9 oth9
                              have HZ := Lib.hid (And.intro (St.merged o HV.out.1 HV.out.2 vZ1 vZ2 HS.out.2.2.1 HS.out.2.2.2 HS.out.1 HS.out.2.1 sZ1 sZ2 tZ1 tZ2) (St.VL.app.2 ⟨vZ1, vZ2⟩))
                              have HR := Lib.hid (And.intro row oth)
                              clear row oth sZ1 sZ2 tZ1 tZ2 vZ1 vZ2
                              go_wp2_with fail
                              all_goals (first | (exfalso; omega) | go_end0 | (simp only [Exit.inBlock, Exit.then]; refine bodyPost_ret (results_none rfl _ _ _) rfl ?_) | refine bodyPost_ret (results_none rfl _ _ _) rfl ?_)
                              all_goals exact ⟨rfl, Z1 ++ Z2, by have := HR.out.1; simpa [List.append_assoc] using this, HZ.out.1.1, by have := HE.out.1; have := HE.out.2; first | (rw [HE.out.1, HE.out.2]; exact HZ.out.1.2) | exact HZ.out.1.2, HZ.out.2, HR.out.2⟩
                        · rcases (by omega : (mid < ed ∧ ed = b) ∨ mid = ed) with ⟨c31, c32⟩ | c31
                          · have c33 : ¬ (ed : Int) < (b : Int) := by omega
                            first
                              | (exfalso; have := HL.out; omega)
                              | skip
                                obtain ⟨Z2, hZ2⟩ : ∃ Z2, Z2 = X2 ++ Y2 := ⟨_, rfl⟩
                                have sZ2 : St.Srt c Z2 := by
                                  rw [hZ2]
                                  rcases (by have := HL.out; omega : X2.length = 0 ∨ Y2.length = 0) with h | h
                                  · rw [List.length_eq_zero_iff.1 h, List.nil_append]; exact (St.Srt.app.1 HS.out.2.2.2).2.1
                                  · rw [List.length_eq_zero_iff.1 h, List.append_nil]; exact (St.Srt.app.1 HS.out.2.2.1).2.1
                                have tZ2 : St.Stb c V (X2 ++ Y2) Z2 := by rw [hZ2]; exact St.Stb.refl _
                                have vZ2 : St.VL V Z2 := by rw [hZ2]; exact St.VL.app.2 ⟨(St.VL.app.1 HV.out.1).2, (St.VL.app.1 HV.out.2).2⟩
                                have row2 : ∀ w, RowQ w g n (A ++ Z1 ++ X2 ++ Y2 ++ B) → RowQ w g n ((A ++ Z1) ++ Z2 ++ B) := fun w h => by rw [hZ2]; simpa [List.append_assoc] using h
                                replace row := row2 _ row
                                clear hZ2 row2
                                have HZ := Lib.hid (And.intro (St.merged o HV.out.1 HV.out.2 vZ1 vZ2 HS.out.2.2.1 HS.out.2.2.2 HS.out.1 HS.out.2.1 sZ1 sZ2 tZ1 tZ2) (St.VL.app.2 ⟨vZ1, vZ2⟩))
                                have HR := Lib.hid (And.intro row oth)
                                clear row oth sZ1 sZ2 tZ1 tZ2 vZ1 vZ2
                                go_wp2_with fail
                                all_goals (first | (exfalso; omega) | go_end0 | (simp only [Exit.inBlock, Exit.then]; refine bodyPost_ret (results_none rfl _ _ _) rfl ?_) | refine bodyPost_ret (results_none rfl _ _ _) rfl ?_)
                                all_goals exact ⟨rfl, Z1 ++ Z2, by have := HR.out.1; simpa [List.append_assoc] using this, HZ.out.1.1, by have := HE.out.1; have := HE.out.2; first | (rw [HE.out.1, HE.out.2]; exact HZ.out.1.2) | exact HZ.out.1.2, HZ.out.2, HR.out.2⟩
                          · have c32 : ¬ (mid : Int) < (ed : Int) := by omega
                            first
                              | (exfalso; have := HL.out; omega)
                              | skip
                                obtain ⟨Z2, hZ2⟩ : ∃ Z2, Z2 = X2 ++ Y2 := ⟨_, rfl⟩
                                have sZ2 : St.Srt c Z2 := by
                                  rw [hZ2]
                                  rcases (by have := HL.out; omega : X2.length = 0 ∨ Y2.length = 0) with h | h
                                  · rw [List.length_eq_zero_iff.1 h, List.nil_append]; exact (St.Srt.app.1 HS.out.2.2.2).2.1
                                  · rw [List.length_eq_zero_iff.1 h, List.append_nil]; exact (St.Srt.app.1 HS.out.2.2.1).2.1
                                have tZ2 : St.Stb c V (X2 ++ Y2) Z2 := by rw [hZ2]; exact St.Stb.refl _
                                have vZ2 : St.VL V Z2 := by rw [hZ2]; exact St.VL.app.2 ⟨(St.VL.app.1 HV.out.1).2, (St.VL.app.1 HV.out.2).2⟩
                                have row2 : ∀ w, RowQ w g n (A ++ Z1 ++ X2 ++ Y2 ++ B) → RowQ w g n ((A ++ Z1) ++ Z2 ++ B) := fun w h => by rw [hZ2]; simpa [List.append_assoc] using h
                                replace row := row2 _ row
                                clear hZ2 row2
                                have HZ := Lib.hid (And.intro (St.merged o HV.out.1 HV.out.2 vZ1 vZ2 HS.out.2.2.1 HS.out.2.2.2 HS.out.1 HS.out.2.1 sZ1 sZ2 tZ1 tZ2) (St.VL.app.2 ⟨vZ1, vZ2⟩))
                                have HR := Lib.hid (And.intro row oth)
                                clear row oth sZ1 sZ2 tZ1 tZ2 vZ1 vZ2
                                go_wp2_with fail
                                all_goals (first | (exfalso; omega) | go_end0 | (simp only [Exit.inBlock, Exit.then]; refine bodyPost_ret (results_none rfl _ _ _) rfl ?_) | refine bodyPost_ret (results_none rfl _ _ _) rfl ?_)
                                all_goals exact ⟨rfl, Z1 ++ Z2, by have := HR.out.1; simpa [List.append_assoc] using this, HZ.out.1.1, by have := HE.out.1; have := HE.out.2; first | (rw [HE.out.1, HE.out.2]; exact HZ.out.1.2) | exact HZ.out.1.2, HZ.out.2, HR.out.2⟩
                  · have c22 : ¬ (a : Int) < (r : Int) := by omega
                    first
                      | (exfalso; have := HL.out; omega)
                      | skip
                        obtain ⟨Z1, hZ1⟩ : ∃ Z1, Z1 = X1 ++ Y1 := ⟨_, rfl⟩
                        have sZ1 : St.Srt c Z1 := by
                          rw [hZ1]
                          rcases (by have := HL.out; omega : X1.length = 0 ∨ Y1.length = 0) with h | h
                          · rw [List.length_eq_zero_iff.1 h, List.nil_append]; exact (St.Srt.app.1 HS.out.2.2.2).1
                          · rw [List.length_eq_zero_iff.1 h, List.append_nil]; exact (St.Srt.app.1 HS.out.2.2.1).1
                        have tZ1 : St.Stb c V (X1 ++ Y1) Z1 := by rw [hZ1]; exact St.Stb.refl _
                        have vZ1 : St.VL V Z1 := by rw [hZ1]; exact St.VL.app.2 ⟨(St.VL.app.1 HV.out.1).1, (St.VL.app.1 HV.out.2).1⟩
                        have row1 : ∀ w, RowQ w g n (A ++ X1 ++ Y1 ++ X2 ++ Y2 ++ B) → RowQ w g n (A ++ Z1 ++ X2 ++ Y2 ++ B) := fun w h => by rw [hZ1]; simpa [List.append_assoc] using h
                        replace row := row1 _ row
                        clear hZ1 row1
                        have lZ1 : Z1.length = X1.length + Y1.length := by rw [tZ1.1, List.length_append]
                        by_cases c3 : mid < ed ∧ ed < b
                        · obtain ⟨c31, c32⟩ := c3
                          first
                            | (exfalso; have := HL.out; omega)
                            | skip
                              go_wp2_with fail
                              refine (IH (A ++ Z1) X2 Y2 B _ _ _ _ (by rw [HI.out]; have := HL.out; omega) (by simpa [List.append_assoc] using row) (by have := HL.out; omega) (by have := HL.out; omega) (St.Srt.app.1 HS.out.2.2.1).2.1 (St.Srt.app.1 HS.out.2.2.2).2.1 (St.VL.app.1 HV.out.1).2 (St.VL.app.1 HV.out.2).2 ?_ ?_ ?_).mono ?_
                              · rw [List.length_append, lZ1]; have := HL.out; push_cast; omega
                              · rw [List.length_append, lZ1]; have := HL.out; push_cast; omega
                              · rw [List.length_append, lZ1]; have := HL.out; push_cast; omega
                              rintro e w9 ⟨rfl, Z2, row9, sZ2, tZ2, vZ2, oth9⟩
                              have row := row9
                              replace oth := oth.trans oth9
                              clear row9 oth9
                              have HZ := Lib.hid (And.intro (St.merged o HV.out.1 HV.out.2 vZ1 vZ2 HS.out.2.2.1 HS.out.2.2.2 HS.out.1 HS.out.2.1 sZ1 sZ2 tZ1 tZ2) (St.VL.app.2 ⟨vZ1, vZ2⟩))
                              have HR := Lib.hid (And.intro row oth)
                              clear row oth sZ1 sZ2 tZ1 tZ2 vZ1 vZ2
                              go_wp2_with fail
                              all_goals (first | (exfalso; omega) | go_end0 | (simp only [Exit.inBlock, Exit.then]; refine bodyPost_ret (results_none rfl _ _ _) rfl ?_) | refine bodyPost_ret (results_none rfl _ _ _) rfl ?_)
                              all_goals exact ⟨rfl, Z1 ++ Z2, by have := HR.out.1; simpa [List.append_assoc] using this, HZ.out.1.1, by have := HE.out.1; have := HE.out.2; first | (rw [HE.out.1, HE.out.2]; exact HZ.out.1.2) | exact HZ.out.1.2, HZ.out.2, HR.out.2⟩
                        · rcases (by omega : (mid < ed ∧ ed = b) ∨ mid = ed) with ⟨c31, c32⟩ | c31
                          · have c33 : ¬ (ed : Int) < (b : Int) := by omega
                            first
                              | (exfalso; have := HL.out; omega)
                              | skip
                                obtain ⟨Z2, hZ2⟩ : ∃ Z2, Z2 = X2 ++ Y2 := ⟨_, rfl⟩
                                have sZ2 : St.Srt c Z2 := by
                                  rw [hZ2]
                                  rcases (by have := HL.out; omega : X2.length = 0 ∨ Y2.length = 0) with h | h
                                  · rw [List.length_eq_zero_iff.1 h, List.nil_append]; exact (St.Srt.app.1 HS.out.2.2.2).2.1
                                  · rw [List.length_eq_zero_iff.1 h, List.append_nil]; exact (St.Srt.app.1 HS.out.2.2.1).2.1
                                have tZ2 : St.Stb c V (X2 ++ Y2) Z2 := by rw [hZ2]; exact St.Stb.refl _
                                have vZ2 : St.VL V Z2 := by rw [hZ2]; exact St.VL.app.2 ⟨(St.VL.app.1 HV.out.1).2, (St.VL.app.1 HV.out.2).2⟩
                                have row2 : ∀ w, RowQ w g n (A ++ Z1 ++ X2 ++ Y2 ++ B) → RowQ w g n ((A ++ Z1) ++ Z2 ++ B) := fun w h => by rw [hZ2]; simpa [List.append_assoc] using h
                                replace row := row2 _ row
                                clear hZ2 row2
                                have HZ := Lib.hid (And.intro (St.merged o HV.out.1 HV.out.2 vZ1 vZ2 HS.out.2.2.1 HS.out.2.2.2 HS.out.1 HS.out.2.1 sZ1 sZ2 tZ1 tZ2) (St.VL.app.2 ⟨vZ1, vZ2⟩))
                                have HR := Lib.hid (And.intro row oth)
                                clear row oth sZ1 sZ2 tZ1 tZ2 vZ1 vZ2
                                go_wp2_with fail
                                all_goals (first | (exfalso; omega) | go_end0 | (simp only [Exit.inBlock, Exit.then]; refine bodyPost_ret (results_none rfl _ _ _) rfl ?_) | refine bodyPost_ret (results_none rfl _ _ _) rfl ?_)
                                all_goals exact ⟨rfl, Z1 ++ Z2, by have := HR.out.1; simpa [List.append_assoc] using this, HZ.out.1.1, by have := HE.out.1; have := HE.out.2; first | (rw [HE.out.1, HE.out.2]; exact HZ.out.1.2) | exact HZ.out.1.2, HZ.out.2, HR.out.2⟩
                          · have c32 : ¬ (mid : Int) < (ed : Int) := by omega
                            first
                              | (exfalso; have := HL.out; omega)
                              | skip
                                obtain ⟨Z2, hZ2⟩ : ∃ Z2, Z2 = X2 ++ Y2 := ⟨_, rfl⟩
                                have sZ2 : St.Srt c Z2 := by
                                  rw [hZ2]
                                  rcases (by have := HL.out; omega : X2.length = 0 ∨ Y2.length = 0) with h | h
                                  · rw [List.length_eq_zero_iff.1 h, List.nil_append]; exact (St.Srt.app.1 HS.out.2.2.2).2.1
                                  · rw [List.length_eq_zero_iff.1 h, List.append_nil]; exact (St.Srt.app.1 HS.out.2.2.1).2.1
                                have tZ2 : St.Stb c V (X2 ++ Y2) Z2 := by rw [hZ2]; exact St.Stb.refl _
                                have vZ2 : St.VL V Z2 := by rw [hZ2]; exact St.VL.app.2 ⟨(St.VL.app.1 HV.out.1).2, (St.VL.app.1 HV.out.2).2⟩
                                have row2 : ∀ w, RowQ w g n (A ++ Z1 ++ X2 ++ Y2 ++ B) → RowQ w g n ((A ++ Z1) ++ Z2 ++ B) := fun w h => by rw [hZ2]; simpa [List.append_assoc] using h
                                replace row := row2 _ row
                                clear hZ2 row2
                                have HZ := Lib.hid (And.intro (St.merged o HV.out.1 HV.out.2 vZ1 vZ2 HS.out.2.2.1 HS.out.2.2.2 HS.out.1 HS.out.2.1 sZ1 sZ2 tZ1 tZ2) (St.VL.app.2 ⟨vZ1, vZ2⟩))
                                have HR := Lib.hid (And.intro row oth)
                                clear row oth sZ1 sZ2 tZ1 tZ2 vZ1 vZ2
                                go_wp2_with fail
                                all_goals (first | (exfalso; omega) | go_end0 | (simp only [Exit.inBlock, Exit.then]; refine bodyPost_ret (results_none rfl _ _ _) rfl ?_) | refine bodyPost_ret (results_none rfl _ _ _) rfl ?_)
                                all_goals exact ⟨rfl, Z1 ++ Z2, by have := HR.out.1; simpa [List.append_assoc] using this, HZ.out.1.1, by have := HE.out.1; have := HE.out.2; first | (rw [HE.out.1, HE.out.2]; exact HZ.out.1.2) | exact HZ.out.1.2, HZ.out.2, HR.out.2⟩
          · have c12 : ¬ (r : Int) < (m : Int) := by omega
            first
              | (exfalso; have := HL.out; omega)
              | skip
                have row0 : ∀ w, RowQ w g n (A ++ (X1 ++ X2) ++ (Y1 ++ Y2) ++ B) → RowQ w g n (A ++ X1 ++ Y1 ++ X2 ++ Y2 ++ B) := fun w hw => by
                  rcases (by have := HL.out; omega : X2.length = 0 ∨ Y1.length = 0) with h | h
                  · rw [List.length_eq_zero_iff.1 h] at hw ⊢; simpa [List.append_assoc] using hw
                  · rw [List.length_eq_zero_iff.1 h] at hw ⊢; simpa [List.append_assoc] using hw
                replace row := row0 _ row
                clear row0
                by_cases c2 : a < r ∧ r < mid
                · obtain ⟨c21, c22⟩ := c2
                  first
                    | (exfalso; have := HL.out; omega)
                    | skip
                      have c24 : decide ((m : Int) < (mid : Int)) = true := decide_eq_true (by omega)
                      have c25 : decide (m < mid) = true := decide_eq_true (by omega)
                      go_wp2_with fail
                      all_goals try (exfalso; omega)
                      refine (IH A X1 Y1 (X2 ++ Y2 ++ B) _ _ _ _ (by rw [HI.out]; have := HL.out; omega) (by simpa [List.append_assoc] using row) (by have := HL.out; omega) (by have := HL.out; omega) (St.Srt.app.1 HS.out.2.2.1).1 (St.Srt.app.1 HS.out.2.2.2).1 (St.VL.app.1 HV.out.1).1 (St.VL.app.1 HV.out.2).1 ?_ ?_ ?_).mono ?_
                      · have := HL.out; omega
                      · have := HL.out; omega
                      · have := HL.out; omega
                      rintro e w8 ⟨rfl, Z1, row8, sZ1, tZ1, vZ1, oth8⟩
                      replace oth := oth.trans oth8
                      replace row : RowQ w8 g n (A ++ Z1 ++ X2 ++ Y2 ++ B) := by simpa [List.append_assoc] using row8
                      clear row8 oth8
                      have lZ1 : Z1.length = X1.length + Y1.length := by rw [tZ1.1, List.length_append]
                      by_cases c3 : mid < ed ∧ ed < b
                      · obtain ⟨c31, c32⟩ := c3
                        first
                          | (exfalso; have := HL.out; omega)
                          | skip
                            go_wp2_with fail
                            refine (IH (A ++ Z1) X2 Y2 B _ _ _ _ (by rw [HI.out]; have := HL.out; omega) (by simpa [List.append_assoc] using row) (by have := HL.out; omega) (by have := HL.out; omega) (St.Srt.app.1 HS.out.2.2.1).2.1 (St.Srt.app.1 HS.out.2.2.2).2.1 (St.VL.app.1 HV.out.1).2 (St.VL.app.1 HV.out.2).2 ?_ ?_ ?_).mono ?_
                            · rw [List.length_append, lZ1]; have := HL.out; push_cast; omega
                            · rw [List.length_append, lZ1]; have := HL.out; push_cast; omega
                            · rw [List.length_append, lZ1]; have := HL.out; push_cast; omega
                            rintro e w9 ⟨rfl, Z2, row9, sZ2, tZ2, vZ2, oth9⟩
                            have row := row9
                            replace oth := oth.trans oth9
                            clear row9 oth9
                            have HZ := Lib.hid (And.intro (St.merged o HV.out.1 HV.out.2 vZ1 vZ2 HS.out.2.2.1 HS.out.2.2.2 HS.out.1 HS.out.2.1 sZ1 sZ2 tZ1 tZ2) (St.VL.app.2 ⟨vZ1, vZ2⟩))
                            have HR := Lib.hid (And.intro row oth)
                            clear row oth sZ1 sZ2 tZ1 tZ2 vZ1 vZ2
                            go_wp2_with fail
                            all_goals (first | (exfalso; omega) | go_end0 | (simp only [Exit.inBlock, Exit.then]; refine bodyPost_ret (results_none rfl _ _ _) rfl ?_) | refine bodyPost_ret (results_none rfl _ _ _) rfl ?_)
                            all_goals exact ⟨rfl, Z1 ++ Z2, by have := HR.out.1; simpa [List.append_assoc] using this, HZ.out.1.1, by have := HE.out.1; have := HE.out.2; first | (rw [HE.out.1, HE.out.2]; exact HZ.out.1.2) | exact HZ.out.1.2, HZ.out.2, HR.out.2⟩
                      · rcases (by omega : (mid < ed ∧ ed = b) ∨ mid = ed) with ⟨c31, c32⟩ | c31
                        · have c33 : ¬ (ed : Int) < (b : Int) := by omega
                          first
                            | (exfalso; have := HL.out; omega)
                            | skip
                              obtain ⟨Z2, hZ2⟩ : ∃ Z2, Z2 = X2 ++ Y2 := ⟨_, rfl⟩
                              have sZ2 : St.Srt c Z2 := by
                                rw [hZ2]
                                rcases (by have := HL.out; omega : X2.length = 0 ∨ Y2.length = 0) with h | h
                                · rw [List.length_eq_zero_iff.1 h, List.nil_append]; exact (St.Srt.app.1 HS.out.2.2.2).2.1
                                · rw [List.length_eq_zero_iff.1 h, List.append_nil]; exact (St.Srt.app.1 HS.out.2.2.1).2.1
                              have tZ2 : St.Stb c V (X2 ++ Y2) Z2 := by rw [hZ2]; exact St.Stb.refl _
                              have vZ2 : St.VL V Z2 := by rw [hZ2]; exact St.VL.app.2 ⟨(St.VL.app.1 HV.out.1).2, (St.VL.app.1 HV.out.2).2⟩
                              have row2 : ∀ w, RowQ w g n (A ++ Z1 ++ X2 ++ Y2 ++ B) → RowQ w g n ((A ++ Z1) ++ Z2 ++ B) := fun w h => by rw [hZ2]; simpa [List.append_assoc] using h
                              replace row := row2 _ row
                              clear hZ2 row2
                              have HZ := Lib.hid (And.intro (St.merged o HV.out.1 HV.out.2 vZ1 vZ2 HS.out.2.2.1 HS.out.2.2.2 HS.out.1 HS.out.2.1 sZ1 sZ2 tZ1 tZ2) (St.VL.app.2 ⟨vZ1, vZ2⟩))
                              have HR := Lib.hid (And.intro row oth)
                              clear row oth sZ1 sZ2 tZ1 tZ2 vZ1 vZ2
                              go_wp2_with fail
                              all_goals (first | (exfalso; omega) | go_end0 | (simp only [Exit.inBlock, Exit.then]; refine bodyPost_ret (results_none rfl _ _ _) rfl ?_) | refine bodyPost_ret (results_none rfl _ _ _) rfl ?_)
                              all_goals exact ⟨rfl, Z1 ++ Z2, by have := HR.out.1; simpa [List.append_assoc] using this, HZ.out.1.1, by have := HE.out.1; have := HE.out.2; first | (rw [HE.out.1, HE.out.2]; exact HZ.out.1.2) | exact HZ.out.1.2, HZ.out.2, HR.out.2⟩
                        · have c32 : ¬ (mid : Int) < (ed : Int) := by omega
                          first
                            | (exfalso; have := HL.out; omega)
                            | skip
                              obtain ⟨Z2, hZ2⟩ : ∃ Z2, Z2 = X2 ++ Y2 := ⟨_, rfl⟩
                              have sZ2 : St.Srt c Z2 := by
                                rw [hZ2]
                                rcases (by have := HL.out; omega : X2.length = 0 ∨ Y2.length = 0) with h | h
                                · rw [List.length_eq_zero_iff.1 h, List.nil_append]; exact (St.Srt.app.1 HS.out.2.2.2).2.1
                                · rw [List.length_eq_zero_iff.1 h, List.append_nil]; exact (St.Srt.app.1 HS.out.2.2.1).2.1
                              have tZ2 : St.Stb c V (X2 ++ Y2) Z2 := by rw [hZ2]; exact St.Stb.refl _
                              have vZ2 : St.VL V Z2 := by rw [hZ2]; exact St.VL.app.2 ⟨(St.VL.app.1 HV.out.1).2, (St.VL.app.1 HV.out.2).2⟩
                              have row2 : ∀ w, RowQ w g n (A ++ Z1 ++ X2 ++ Y2 ++ B) → RowQ w g n ((A ++ Z1) ++ Z2 ++ B) := fun w h => by rw [hZ2]; simpa [List.append_assoc] using h
                              replace row := row2 _ row
                              clear hZ2 row2
                              have HZ := Lib.hid (And.intro (St.merged o HV.out.1 HV.out.2 vZ1 vZ2 HS.out.2.2.1 HS.out.2.2.2 HS.out.1 HS.out.2.1 sZ1 sZ2 tZ1 tZ2) (St.VL.app.2 ⟨vZ1, vZ2⟩))
                              have HR := Lib.hid (And.intro row oth)
                              clear row oth sZ1 sZ2 tZ1 tZ2 vZ1 vZ2
                              go_wp2_with fail
                              all_goals (first | (exfalso; omega) | go_end0 | (simp only [Exit.inBlock, Exit.then]; refine bodyPost_ret (results_none rfl _ _ _) rfl ?_) | refine bodyPost_ret (results_none rfl _ _ _) rfl ?_)
                              all_goals exact ⟨rfl, Z1 ++ Z2, by have := HR.out.1; simpa [List.append_assoc] using this, HZ.out.1.1, by have := HE.out.1; have := HE.out.2; first | (rw [HE.out.1, HE.out.2]; exact HZ.out.1.2) | exact HZ.out.1.2, HZ.out.2, HR.out.2⟩
                · rcases (by omega : (a < r ∧ r = mid) ∨ a = r) with ⟨c21, c22⟩ | c21
                  · have c23 : ¬ (r : Int) < (mid : Int) := by omega
                    first
                      | (exfalso; have := HL.out; omega)
                      | skip
                        obtain ⟨Z1, hZ1⟩ : ∃ Z1, Z1 = X1 ++ Y1 := ⟨_, rfl⟩
                        have sZ1 : St.Srt c Z1 := by
                          rw [hZ1]
                          rcases (by have := HL.out; omega : X1.length = 0 ∨ Y1.length = 0) with h | h
                          · rw [List.length_eq_zero_iff.1 h, List.nil_append]; exact (St.Srt.app.1 HS.out.2.2.2).1
                          · rw [List.length_eq_zero_iff.1 h, List.append_nil]; exact (St.Srt.app.1 HS.out.2.2.1).1
                        have tZ1 : St.Stb c V (X1 ++ Y1) Z1 := by rw [hZ1]; exact St.Stb.refl _
                        have vZ1 : St.VL V Z1 := by rw [hZ1]; exact St.VL.app.2 ⟨(St.VL.app.1 HV.out.1).1, (St.VL.app.1 HV.out.2).1⟩
                        have row1 : ∀ w, RowQ w g n (A ++ X1 ++ Y1 ++ X2 ++ Y2 ++ B) → RowQ w g n (A ++ Z1 ++ X2 ++ Y2 ++ B) := fun w h => by rw [hZ1]; simpa [List.append_assoc] using h
                        replace row := row1 _ row
                        clear hZ1 row1
                        have lZ1 : Z1.length = X1.length + Y1.length := by rw [tZ1.1, List.length_append]
                        by_cases c3 : mid < ed ∧ ed < b
                        · obtain ⟨c31, c32⟩ := c3
                          first
                            | (exfalso; have := HL.out; omega)
                            | skip
                              go_wp2_with fail
                              refine (IH (A ++ Z1) X2 Y2 B _ _ _ _ (by rw [HI.out]; have := HL.out; omega) (by simpa [List.append_assoc] using row) (by have := HL.out; omega) (by have := HL.out; omega) (St.Srt.app.1 HS.out.2.2.1).2.1 (St.Srt.app.1 HS.out.2.2.2).2.1 (St.VL.app.1 HV.out.1).2 (St.VL.app.1 HV.out.2).2 ?_ ?_ ?_).mono ?_
                              · rw [List.length_append, lZ1]; have := HL.out; push_cast; omega
                              · rw [List.length_append, lZ1]; have := HL.out; push_cast; omega
                              · rw [List.length_append, lZ1]; have := HL.out; push_cast; omega
                              rintro e w9 ⟨rfl, Z2, row9, sZ2, tZ2, vZ2, oth9⟩
                              have row := row9
                              replace oth := oth.trans oth9
                              clear row9 oth9
                              have HZ := Lib.hid (And.intro (St.merged o HV.out.1 HV.out.2 vZ1 vZ2 HS.out.2.2.1 HS.out.2.2.2 HS.out.1 HS.out.2.1 sZ1 sZ2 tZ1 tZ2) (St.VL.app.2 ⟨vZ1, vZ2⟩))
                              have HR := Lib.hid (And.intro row oth)
                              clear row oth sZ1 sZ2 tZ1 tZ2 vZ1 vZ2
                              go_wp2_with fail
                              all_goals (first | (exfalso; omega) | go_end0 | (simp only [Exit.inBlock, Exit.then]; refine bodyPost_ret (results_none rfl _ _ _) rfl ?_) | refine bodyPost_ret (results_none rfl _ _ _) rfl ?_)
                              all_goals exact ⟨rfl, Z1 ++ Z2, by have := HR.out.1; simpa [List.append_assoc] using this, HZ.out.1.1, by have := HE.out.1; have := HE.out.2; first | (rw [HE.out.1, HE.out.2]; exact HZ.out.1.2) | exact HZ.out.1.2, HZ.out.2, HR.out.2⟩
                        · rcases (by omega : (mid < ed ∧ ed = b) ∨ mid = ed) with ⟨c31, c32⟩ | c31
                          · have c33 : ¬ (ed : Int) < (b : Int) := by omega
                            first
                              | (exfalso; have := HL.out; omega)
                              | skip
                                obtain ⟨Z2, hZ2⟩ : ∃ Z2, Z2 = X2 ++ Y2 := ⟨_, rfl⟩
                                have sZ2 : St.Srt c Z2 := by
                                  rw [hZ2]
                                  rcases (by have := HL.out; omega : X2.length = 0 ∨ Y2.length = 0) with h | h
                                  · rw [List.length_eq_zero_iff.1 h, List.nil_append]; exact (St.Srt.app.1 HS.out.2.2.2).2.1
                                  · rw [List.length_eq_zero_iff.1 h, List.append_nil]; exact (St.Srt.app.1 HS.out.2.2.1).2.1
                                have tZ2 : St.Stb c V (X2 ++ Y2) Z2 := by rw [hZ2]; exact St.Stb.refl _
                                have vZ2 : St.VL V Z2 := by rw [hZ2]; exact St.VL.app.2 ⟨(St.VL.app.1 HV.out.1).2, (St.VL.app.1 HV.out.2).2⟩
                                have row2 : ∀ w, RowQ w g n (A ++ Z1 ++ X2 ++ Y2 ++ B) → RowQ w g n ((A ++ Z1) ++ Z2 ++ B) := fun w h => by rw [hZ2]; simpa [List.append_assoc] using h
                                replace row := row2 _ row
                                clear hZ2 row2
                                have HZ := Lib.hid (And.intro (St.merged o HV.out.1 HV.out.2 vZ1 vZ2 HS.out.2.2.1 HS.out.2.2.2 HS.out.1 HS.out.2.1 sZ1 sZ2 tZ1 tZ2) (St.VL.app.2 ⟨vZ1, vZ2⟩))
                                have HR := Lib.hid (And.intro row oth)
                                clear row oth sZ1 sZ2 tZ1 tZ2 vZ1 vZ2
                                go_wp2_with fail
                                all_goals (first | (exfalso; omega) | go_end0 | (simp only [Exit.inBlock, Exit.then]; refine bodyPost_ret (results_none rfl _ _ _) rfl ?_) | refine bodyPost_ret (results_none rfl _ _ _) rfl ?_)
                                all_goals exact ⟨rfl, Z1 ++ Z2, by have := HR.out.1; simpa [List.append_assoc] using this, HZ.out.1.1, by have := HE.out.1; have := HE.out.2; first | (rw [HE.out.1, HE.out.2]; exact HZ.out.1.2) | exact HZ.out.1.2, HZ.out.2, HR.out.2⟩
                          · have c32 : ¬ (mid : Int) < (ed : Int) := by omega
                            first
                              | (exfalso; have := HL.out; omega)
                              | skip
                                obtain ⟨Z2, hZ2⟩ : ∃ Z2, Z2 = X2 ++ Y2 := ⟨_, rfl⟩
                                have sZ2 : St.Srt c Z2 := by
                                  rw [hZ2]
                                  rcases (by have := HL.out; omega : X2.length = 0 ∨ Y2.length = 0) with h | h
                                  · rw [List.length_eq_zero_iff.1 h, List.nil_append]; exact (St.Srt.app.1 HS.out.2.2.2).2.1
                                  · rw [List.length_eq_zero_iff.1 h, List.append_nil]; exact (St.Srt.app.1 HS.out.2.2.1).2.1
                                have tZ2 : St.Stb c V (X2 ++ Y2) Z2 := by rw [hZ2]; exact St.Stb.refl _
                                have vZ2 : St.VL V Z2 := by rw [hZ2]; exact St.VL.app.2 ⟨(St.VL.app.1 HV.out.1).2, (St.VL.app.1 HV.out.2).2⟩
                                have row2 : ∀ w, RowQ w g n (A ++ Z1 ++ X2 ++ Y2 ++ B) → RowQ w g n ((A ++ Z1) ++ Z2 ++ B) := fun w h => by rw [hZ2]; simpa [List.append_assoc] using h
                                replace row := row2 _ row
                                clear hZ2 row2
                                have HZ := Lib.hid (And.intro (St.merged o HV.out.1 HV.out.2 vZ1 vZ2 HS.out.2.2.1 HS.out.2.2.2 HS.out.1 HS.out.2.1 sZ1 sZ2 tZ1 tZ2) (St.VL.app.2 ⟨vZ1, vZ2⟩))
                                have HR := Lib.hid (And.intro row oth)
                                clear row oth sZ1 sZ2 tZ1 tZ2 vZ1 vZ2
                                go_wp2_with fail
                                all_goals (first | (exfalso; omega) | go_end0 | (simp only [Exit.inBlock, Exit.then]; refine bodyPost_ret (results_none rfl _ _ _) rfl ?_) | refine bodyPost_ret (results_none rfl _ _ _) rfl ?_)
                                all_goals exact ⟨rfl, Z1 ++ Z2, by have := HR.out.1; simpa [List.append_assoc] using this, HZ.out.1.1, by have := HE.out.1; have := HE.out.2; first | (rw [HE.out.1, HE.out.2]; exact HZ.out.1.2) | exact HZ.out.1.2, HZ.out.2, HR.out.2⟩
                  · have c22 : ¬ (a : Int) < (r : Int) := by omega
                    first
                      | (exfalso; have := HL.out; omega)
                      | skip
                        obtain ⟨Z1, hZ1⟩ : ∃ Z1, Z1 = X1 ++ Y1 := ⟨_, rfl⟩
                        have sZ1 : St.Srt c Z1 := by
                          rw [hZ1]
                          rcases (by have := HL.out; omega : X1.length = 0 ∨ Y1.length = 0) with h | h
                          · rw [List.length_eq_zero_iff.1 h, List.nil_append]; exact (St.Srt.app.1 HS.out.2.2.2).1
                          · rw [List.length_eq_zero_iff.1 h, List.append_nil]; exact (St.Srt.app.1 HS.out.2.2.1).1
                        have tZ1 : St.Stb c V (X1 ++ Y1) Z1 := by rw [hZ1]; exact St.Stb.refl _
                        have vZ1 : St.VL V Z1 := by rw [hZ1]; exact St.VL.app.2 ⟨(St.VL.app.1 HV.out.1).1, (St.VL.app.1 HV.out.2).1⟩
                        have row1 : ∀ w, RowQ w g n (A ++ X1 ++ Y1 ++ X2 ++ Y2 ++ B) → RowQ w g n (A ++ Z1 ++ X2 ++ Y2 ++ B) := fun w h => by rw [hZ1]; simpa [List.append_assoc] using h
                        replace row := row1 _ row
                        clear hZ1 row1
                        have lZ1 : Z1.length = X1.length + Y1.length := by rw [tZ1.1, List.length_append]
                        by_cases c3 : mid < ed ∧ ed < b
                        · obtain ⟨c31, c32⟩ := c3
                          first
                            | (exfalso; have := HL.out; omega)
                            | skip
                              go_wp2_with fail
                              refine (IH (A ++ Z1) X2 Y2 B _ _ _ _ (by rw [HI.out]; have := HL.out; omega) (by simpa [List.append_assoc] using row) (by have := HL.out; omega) (by have := HL.out; omega) (St.Srt.app.1 HS.out.2.2.1).2.1 (St.Srt.app.1 HS.out.2.2.2).2.1 (St.VL.app.1 HV.out.1).2 (St.VL.app.1 HV.out.2).2 ?_ ?_ ?_).mono ?_
                              · rw [List.length_append, lZ1]; have := HL.out; push_cast; omega
                              · rw [List.length_append, lZ1]; have := HL.out; push_cast; omega
                              · rw [List.length_append, lZ1]; have := HL.out; push_cast; omega
                              rintro e w9 ⟨rfl, Z2, row9, sZ2, tZ2, vZ2, oth9⟩
                              have row := row9
                              replace oth := oth.trans oth9
                              clear row9 oth9
                              have HZ := Lib.hid (And.intro (St.merged o HV.out.1 HV.out.2 vZ1 vZ2 HS.out.2.2.1 HS.out.2.2.2 HS.out.1 HS.out.2.1 sZ1 sZ2 tZ1 tZ2) (St.VL.app.2 ⟨vZ1, vZ2⟩))
                              have HR := Lib.hid (And.intro row oth)
                              clear row oth sZ1 sZ2 tZ1 tZ2 vZ1 vZ2
                              go_wp2_with fail
                              all_goals (first | (exfalso; omega) | go_end0 | (simp only [Exit.inBlock, Exit.then]; refine bodyPost_ret (results_none rfl _ _ _) rfl ?_) | refine bodyPost_ret (results_none rfl _ _ _) rfl ?_)
                              all_goals exact ⟨rfl, Z1 ++ Z2, by have := HR.out.1; simpa [List.append_assoc] using this, HZ.out.1.1, by have := HE.out.1; have := HE.out.2; first | (rw [HE.out.1, HE.out.2]; exact HZ.out.1.2) | exact HZ.out.1.2, HZ.out.2, HR.out.2⟩
                        · rcases (by omega : (mid < ed ∧ ed = b) ∨ mid = ed) with ⟨c31, c32⟩ | c31
                          · have c33 : ¬ (ed : Int) < (b : Int) := by omega
                            first
                              | (exfalso; have := HL.out; omega)
                              | skip
                                obtain ⟨Z2, hZ2⟩ : ∃ Z2, Z2 = X2 ++ Y2 := ⟨_, rfl⟩
                                have sZ2 : St.Srt c Z2 := by
                                  rw [hZ2]
                                  rcases (by have := HL.out; omega : X2.length = 0 ∨ Y2.length = 0) with h | h
                                  · rw [List.length_eq_zero_iff.1 h, List.nil_append]; exact (St.Srt.app.1 HS.out.2.2.2).2.1
                                  · rw [List.length_eq_zero_iff.1 h, List.append_nil]; exact (St.Srt.app.1 HS.out.2.2.1).2.1
                                have tZ2 : St.Stb c V (X2 ++ Y2) Z2 := by rw [hZ2]; exact St.Stb.refl _
                                have vZ2 : St.VL V Z2 := by rw [hZ2]; exact St.VL.app.2 ⟨(St.VL.app.1 HV.out.1).2, (St.VL.app.1 HV.out.2).2⟩
                                have row2 : ∀ w, RowQ w g n (A ++ Z1 ++ X2 ++ Y2 ++ B) → RowQ w g n ((A ++ Z1) ++ Z2 ++ B) := fun w h => by rw [hZ2]; simpa [List.append_assoc] using h
                                replace row := row2 _ row
                                clear hZ2 row2
                                have HZ := Lib.hid (And.intro (St.merged o HV.out.1 HV.out.2 vZ1 vZ2 HS.out.2.2.1 HS.out.2.2.2 HS.out.1 HS.out.2.1 sZ1 sZ2 tZ1 tZ2) (St.VL.app.2 ⟨vZ1, vZ2⟩))
                                have HR := Lib.hid (And.intro row oth)
                                clear row oth sZ1 sZ2 tZ1 tZ2 vZ1 vZ2
                                go_wp2_with fail
                                all_goals (first | (exfalso; omega) | go_end0 | (simp only [Exit.inBlock, Exit.then]; refine bodyPost_ret (results_none rfl _ _ _) rfl ?_) | refine bodyPost_ret (results_none rfl _ _ _) rfl ?_)
                                all_goals exact ⟨rfl, Z1 ++ Z2, by have := HR.out.1; simpa [List.append_assoc] using this, HZ.out.1.1, by have := HE.out.1; have := HE.out.2; first | (rw [HE.out.1, HE.out.2]; exact HZ.out.1.2) | exact HZ.out.1.2, HZ.out.2, HR.out.2⟩
                          · have c32 : ¬ (mid : Int) < (ed : Int) := by omega
                            first
                              | (exfalso; have := HL.out; omega)
                              | skip
                                obtain ⟨Z2, hZ2⟩ : ∃ Z2, Z2 = X2 ++ Y2 := ⟨_, rfl⟩
                                have sZ2 : St.Srt c Z2 := by
                                  rw [hZ2]
                                  rcases (by have := HL.out; omega : X2.length = 0 ∨ Y2.length = 0) with h | h
                                  · rw [List.length_eq_zero_iff.1 h, List.nil_append]; exact (St.Srt.app.1 HS.out.2.2.2).2.1
                                  · rw [List.length_eq_zero_iff.1 h, List.append_nil]; exact (St.Srt.app.1 HS.out.2.2.1).2.1
                                have tZ2 : St.Stb c V (X2 ++ Y2) Z2 := by rw [hZ2]; exact St.Stb.refl _
                                have vZ2 : St.VL V Z2 := by rw [hZ2]; exact St.VL.app.2 ⟨(St.VL.app.1 HV.out.1).2, (St.VL.app.1 HV.out.2).2⟩
                                have row2 : ∀ w, RowQ w g n (A ++ Z1 ++ X2 ++ Y2 ++ B) → RowQ w g n ((A ++ Z1) ++ Z2 ++ B) := fun w h => by rw [hZ2]; simpa [List.append_assoc] using h
                                replace row := row2 _ row
                                clear hZ2 row2
                                have HZ := Lib.hid (And.intro (St.merged o HV.out.1 HV.out.2 vZ1 vZ2 HS.out.2.2.1 HS.out.2.2.2 HS.out.1 HS.out.2.1 sZ1 sZ2 tZ1 tZ2) (St.VL.app.2 ⟨vZ1, vZ2⟩))
                                have HR := Lib.hid (And.intro row oth)
                                clear row oth sZ1 sZ2 tZ1 tZ2 vZ1 vZ2
                                go_wp2_with fail
                                all_goals (first | (exfalso; omega) | go_end0 | (simp only [Exit.inBlock, Exit.then]; refine bodyPost_ret (results_none rfl _ _ _) rfl ?_) | refine bodyPost_ret (results_none rfl _ _ _) rfl ?_)
                                all_goals exact ⟨rfl, Z1 ++ Z2, by have := HR.out.1; simpa [List.append_assoc] using this, HZ.out.1.1, by have := HE.out.1; have := HE.out.2; first | (rw [HE.out.1, HE.out.2]; exact HZ.out.1.2) | exact HZ.out.1.2, HZ.out.2, HR.out.2⟩
end Go.Proofs.YteebkfdocdmboaaDoor
