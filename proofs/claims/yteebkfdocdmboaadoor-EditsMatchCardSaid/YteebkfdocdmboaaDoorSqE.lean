/- Stable sorting of pulls: slices.SortStableFunc. -/
import Derived.Test.YteebkfdocdmboaaDoorSqD
namespace Go.Proofs.YteebkfdocdmboaaDoor
open Go.RowKit

theorem sq_symMerge (g n cp : Nat) (F : FuncId) (c : Pl → Pl → Int) (V : Pl → Prop) (hC : CmpQ F c V) (o : St.Ord c V) (hn : n ≤ 1000000) (f : Nat) :
    ∀ (A X Y B : List Pl) (W : World) (ia im ib : Int), X.length + Y.length ≤ f → RowQ W g n (A ++ X ++ Y ++ B) → 0 < X.length → 0 < Y.length → St.Srt c X → St.Srt c Y → St.VL V X → St.VL V Y → ia = (A.length : Int) → im = (A.length : Int) + X.length → ib = (A.length : Int) + X.length + Y.length →
      Calls Tryd.prog 55 #[.slice (some ⟨g, 0, none⟩) n cp, .int .i64 ia, .int .i64 im, .int .i64 ib, .func (.func F) #[] #[]] W fun e w' => e = .returned (.tuple #[]) ∧ ∃ Z, RowQ w' g n (A ++ Z ++ B) ∧ St.Srt c Z ∧ St.Stb c V (X ++ Y) Z ∧ St.VL V Z ∧ Oth g W w' := by
  induction f with
  | zero => intro A X Y B W ia im ib h0 _ h1; omega
  | succ f ih =>
    intro A X Y B W ia im ib hf hr hX hY sX sY vX vY ha hm hb
    subst ha
    obtain rfl : im = ((A.length + X.length : Nat) : Int) := by rw [hm]; push_cast; rfl
    obtain rfl : ib = ((A.length + X.length + Y.length : Nat) : Int) := by rw [hb]; push_cast; rfl
    by_cases h1 : X.length = 1
    · obtain ⟨x, X2, rfl⟩ := St.split_one hX
      obtain rfl : X2 = [] := by simpa using h1
      exact sq_merge1 g n cp F c V hC o hn A Y B x W hr hY sY (St.VL.cons.1 vX).1 vY _ _ _ rfl rfl rfl
    by_cases h2 : Y.length = 1
    · obtain ⟨y, Y2, rfl⟩ := St.split_one hY
      obtain rfl : Y2 = [] := by simpa using h2
      exact sq_merge2 g n cp F c V hC o hn A X B y W hr (by omega) sX (St.VL.cons.1 vY).1 vX _ _ _ rfl rfl rfl
    exact sq_merge3 g n cp F c V hC o hn A X Y B W hr (by omega) (by omega) sX sY vX vY _ _ _ rfl rfl rfl (fun A X1 Y1 B W ia im ib hlt h1 h2 h3 h4 h5 h6 h7 h8 h9 h10 => ih A X1 Y1 B W ia im ib (by omega) h1 h2 h3 h4 h5 h6 h7 h8 h9 h10)

theorem sq_insertion (g n cp : Nat) (F : FuncId) (c : Pl → Pl → Int) (V : Pl → Prop) (hC : CmpQ F c V) (o : St.Ord c V) (hn : n ≤ 1000000) (A T R : List Pl) (W : World) (hr : RowQ W g n (A ++ T ++ R)) (hv : St.VL V T) (a b : Int) (ha : a = (A.length : Int)) (hb : b = (A.length : Int) + T.length) :
    Calls Tryd.prog 54 #[.slice (some ⟨g, 0, none⟩) n cp, .int .i64 a, .int .i64 b, .func (.func F) #[] #[]] W fun e w' => e = .returned (.tuple #[]) ∧ ∃ Z, RowQ w' g n (A ++ Z ++ R) ∧ St.Srt c Z ∧ St.Stb c V T Z ∧ St.VL V Z ∧ Oth g W w' := by
  by_cases h : 2 ≤ T.length
  · subst ha
    obtain rfl : b = ((A.length + T.length : Nat) : Int) := by rw [hb]; push_cast; rfl
    exact sq_insertion2 g n cp F c V hC o hn A T R W hr h hv _ _ rfl rfl
  · have hl := hr.len
    simp only [List.length_append] at hl
    refine (sq_insertion0 g n cp F W a b (by omega) (by omega) (by omega)).mono ?_
    rintro e w' ⟨rfl, rfl⟩
    refine ⟨rfl, T, hr, ?_, St.Stb.refl _, hv, Oth.refl _ _⟩
    cases T with
    | nil => exact List.Pairwise.nil
    | cons t T2 =>
      have : T2 = [] := by
        simp only [List.length_cons] at h
        exact List.length_eq_zero_iff.1 (by omega)
      subst this
      exact List.pairwise_singleton _ _

set_option maxRecDepth 100000 in
set_option maxHeartbeats 8000000 in
theorem sq_stable (g n cp : Nat) (F : FuncId) (c : Pl → Pl → Int) (V : Pl → Prop) (hC : CmpQ F c V) (o : St.Ord c V) (hn : n ≤ 1000000) (l : List Pl) (W : World) (hr : RowQ W g n l) (hv : St.VL V l) :
    Calls Tryd.prog 37 #[.slice (some ⟨g, 0, none⟩) n cp, .int .i64 (n : Int), .func (.func F) #[] #[]] W fun e w' => e = .returned (.tuple #[]) ∧ ∃ Z, RowQ w' g n Z ∧ St.Srt c Z ∧ St.Stb c V l Z ∧ St.VL V Z ∧ Oth g W w' := by
  have HL := Lib.hid hr.len
  have HV := Lib.hid hv
  clear hv
  go_enter Tryd.func37, Tryd.ntmps37
  go_wp2_with fail
  go_loopw [7, 8] (fun av bv wr => ∃ (a : Nat) (L1 D T : List Pl), av = .int .i64 (a : Int) ∧ bv = .int .i64 ((a : Int) + 20) ∧ a ≤ n ∧ l = L1 ++ T ∧ RowQ wr g n (D ++ T) ∧ D.length = a ∧ St.Full c 20 D ∧ St.Stb c V L1 D ∧ St.VL V D ∧ Oth g W wr) (fun av _ _ => n - (intOf av).toNat)
  case atStart => exact ⟨0, [], [], l, rfl, rfl, Nat.zero_le _, rfl, by simpa using hr, rfl, St.Full.nil _, St.Stb.refl _, (fun _ h => by cases h), Oth.refl _ _⟩
  case round =>
    clear hr
    obtain ⟨a, L1, D, T, rfl, rfl, ha, hl, row, hD, fD, tD, vD, oth⟩ := hrel
    have lT : a + T.length = n := by have := row.len; rw [List.length_append] at this; omega
    have vT : St.VL V T := by have := HV.out; rw [hl] at this; exact (St.VL.app.1 this).2
    by_cases hlt : a + 20 ≤ n
    · obtain ⟨T1, T2, rfl, lT1⟩ := St.split_at (l := T) (k := 20) (by omega)
      have hki : (a : Int) + 20 ≤ (n : Int) := by omega
      have HD := Lib.hid (And.intro hl (And.intro hD (And.intro fD (And.intro tD (And.intro vD (And.intro lT1 vT))))))
      clear hl hD fD tD vD lT1 vT lT
      go_wp2_with fail
      refine (sq_insertion g n cp F c V hC o hn D T1 T2 _ (by rw [List.append_assoc]; exact row) (St.VL.app.1 HD.out.2.2.2.2.2.2).1 _ _ (by rw [HD.out.2.1]) (by rw [HD.out.2.1, HD.out.2.2.2.2.2.1]; rfl)).mono ?_
      rintro e w2 ⟨rfl, Z, row2, sZ, tZ, vZ, oth2⟩
      have lZ : Z.length = 20 := by rw [tZ.1]; exact HD.out.2.2.2.2.2.1
      have H2 := Lib.hid (And.intro row2 (And.intro (oth.trans oth2) (And.intro (St.Full.snoc HD.out.2.2.1 lZ sZ) (And.intro (HD.out.2.2.2.1.app tZ) (And.intro (St.VL.app.2 ⟨HD.out.2.2.2.2.1, vZ⟩) lZ)))))
      clear row oth row2 oth2 sZ tZ vZ lZ
      go_wp2_with fail
      go_roundw
      case rel => exact ⟨a + 20, L1 ++ T1, D ++ Z, T2, by go_num, by go_num, hlt, by rw [HD.out.1, List.append_assoc], H2.out.1, by rw [List.length_append, HD.out.2.1, H2.out.2.2.2.2.2], H2.out.2.2.1, H2.out.2.2.2.1, H2.out.2.2.2.2.1, H2.out.2.1⟩
      case measure => simp [intOf] <;> omega
    · have hki : ¬ (a : Int) + 20 ≤ (n : Int) := by omega
      have HD := Lib.hid (And.intro hl (And.intro hD (And.intro fD (And.intro tD (And.intro vD (And.intro lT vT))))))
      clear hl hD fD tD vD vT lT
      go_wp2_with fail
      refine (sq_insertion g n cp F c V hC o hn D T [] _ (by rw [List.append_nil]; exact row) HD.out.2.2.2.2.2.2 _ _ (by rw [HD.out.2.1]) (by have := HD.out.2.2.2.2.2.1; have := HD.out.2.1; omega)).mono ?_
      rintro e w2 ⟨rfl, Z, row2, sZ, tZ, vZ, oth2⟩
      rw [List.append_nil] at row2
      have bZ : St.Blk c 20 (D ++ Z) := HD.out.2.2.1 _ (.last (by rw [tZ.1]; have := HD.out.2.2.2.2.2.1; omega) sZ)
      have tL : St.Stb c V l (D ++ Z) := by rw [HD.out.1]; exact HD.out.2.2.2.1.app tZ
      have vL : St.VL V (D ++ Z) := St.VL.app.2 ⟨HD.out.2.2.2.2.1, vZ⟩
      replace oth := oth.trans oth2
      clear row oth2 sZ tZ vZ HD hki hlt ha
      generalize D ++ Z = L at row2 bZ tL vL
      go_wp2_with fail
      go_loopw [6] (fun sv wr => ∃ (s : Nat) (L : List Pl), sv = .int .i64 (s : Int) ∧ 20 ≤ s ∧ s ≤ 2 * n + 20 ∧ RowQ wr g n L ∧ St.Blk c s L ∧ St.Stb c V l L ∧ St.VL V L ∧ Oth g W wr) (fun sv _ => n - (intOf sv).toNat)
      case atStart => exact ⟨20, L, rfl, Nat.le_refl _, by omega, row2, bZ, tL, vL, oth⟩
      case round =>
        clear row2 bZ tL vL oth L
        obtain ⟨s, L, rfl, hs1, hs2, row, bL, tL, vL, oth⟩ := hrel
        have lL : L.length = n := row.len
        by_cases hlt : s < n
        · have H0 := Lib.hid (And.intro row (And.intro bL (And.intro tL (And.intro vL oth))))
          clear row bL tL vL oth lL
          go_wp2_with fail
          go_loopw [7, 8] (fun av bv wr => ∃ (a : Nat) (D R : List Pl), av = .int .i64 (a : Int) ∧ bv = .int .i64 ((a : Int) + 2 * (s : Int)) ∧ a ≤ n ∧ RowQ wr g n (D ++ R) ∧ D.length = a ∧ St.Full c (2 * s) D ∧ St.Blk c s R ∧ St.Stb c V l (D ++ R) ∧ St.VL V (D ++ R) ∧ Oth g W wr) (fun av _ _ => n - (intOf av).toNat)
          case atStart => exact ⟨0, [], L, rfl, by first | rfl | (congr 1; omega), Nat.zero_le _, H0.out.1, rfl, St.Full.nil _, H0.out.2.1, H0.out.2.2.1, H0.out.2.2.2.1, H0.out.2.2.2.2⟩
          case round =>
            clear H0 L
            obtain ⟨a, D, R, rfl, rfl, ha, row, hD, fD, bR, tR, vR, oth⟩ := hrel
            have lR : a + R.length = n := by have := row.len; rw [List.length_append] at this; omega
            by_cases hlt2 : a + 2 * s ≤ n
            · obtain ⟨X, Y, R2, rfl, lX, lY, sX, sY, bR2⟩ := bR.two (by omega) (by omega)
              have hki : (a : Int) + 2 * (s : Int) ≤ (n : Int) := by omega
              have HD := Lib.hid (And.intro hD (And.intro fD (And.intro bR2 (And.intro tR (And.intro vR (And.intro lX (And.intro lY (And.intro sX sY))))))))
              clear hD fD bR2 tR vR lX lY sX sY lR
              go_wp2_with fail
              refine (sq_symMerge g n cp F c V hC o hn _ D X Y R2 _ _ _ _ (Nat.le_refl _) (by simpa [List.append_assoc] using row) (by have := HD.out.2.2.2.2.2.1; omega) (by have := HD.out.2.2.2.2.2.2.1; omega) HD.out.2.2.2.2.2.2.2.1 HD.out.2.2.2.2.2.2.2.2 (St.VL.app.1 (St.VL.app.1 (St.VL.app.1 HD.out.2.2.2.2.1).2).1).1 (St.VL.app.1 (St.VL.app.1 (St.VL.app.1 HD.out.2.2.2.2.1).2).1).2 ?_ ?_ ?_).mono ?_
              · have := HD.out; omega
              · have := HD.out.1; have := HD.out.2.2.2.2.2.1; omega
              · have := HD.out.1; have := HD.out.2.2.2.2.2.1; have := HD.out.2.2.2.2.2.2.1; omega
              rintro e w3 ⟨rfl, Z, row3, sZ, tZ, vZ, oth3⟩
              have lZ : Z.length = 2 * s := by rw [tZ.1, List.length_append]; have := HD.out.2.2.2.2.2.1; have := HD.out.2.2.2.2.2.2.1; omega
              have t3 : St.Stb c V l (D ++ Z ++ R2) := HD.out.2.2.2.1.trans (by
                have := ((St.Stb.refl (c := c) (V := V) D).app tZ).app (St.Stb.refl (c := c) (V := V) R2)
                simpa [List.append_assoc] using this)
              have v3 : St.VL V (D ++ Z ++ R2) := St.VL.app.2 ⟨St.VL.app.2 ⟨(St.VL.app.1 HD.out.2.2.2.2.1).1, vZ⟩, (St.VL.app.1 (St.VL.app.1 HD.out.2.2.2.2.1).2).2⟩
              have H2 := Lib.hid (And.intro row3 (And.intro (oth.trans oth3) (And.intro (St.Full.snoc HD.out.2.1 lZ sZ) (And.intro t3 (And.intro v3 lZ)))))
              clear row oth row3 oth3 sZ tZ vZ lZ t3 v3
              go_wp2_with fail
              go_roundw
              case rel => exact ⟨a + 2 * s, D ++ Z, R2, by go_num, by first | go_num | (congr 1; push_cast; omega), hlt2, H2.out.1, by rw [List.length_append, HD.out.1, H2.out.2.2.2.2.2], H2.out.2.2.1, HD.out.2.2.1, H2.out.2.2.2.1, H2.out.2.2.2.2.1, H2.out.2.1⟩
              case measure => simp [intOf] <;> omega
            · have hki : ¬ (a : Int) + 2 * (s : Int) ≤ (n : Int) := by omega
              by_cases hlt3 : a + s < n
              · obtain ⟨X, Y, rfl, lX, sX, sY⟩ := bR.rest (by omega) (by omega)
                have hkj : (a : Int) + (s : Int) < (n : Int) := by omega
                have HD := Lib.hid (And.intro hD (And.intro fD (And.intro tR (And.intro vR (And.intro lX (And.intro lR (And.intro sX sY)))))))
                clear hD fD bR tR vR lX sX sY lR
                go_wp2_with fail
                refine (sq_symMerge g n cp F c V hC o hn _ D X Y [] _ _ _ _ (Nat.le_refl _) (by simpa [List.append_assoc] using row) (by have := HD.out.2.2.2.2.1; omega) (by have h1 := HD.out.2.2.2.2.1; have h2 := HD.out.2.2.2.2.2.1; rw [List.length_append] at h2; omega) HD.out.2.2.2.2.2.2.1 HD.out.2.2.2.2.2.2.2 (St.VL.app.1 (St.VL.app.1 HD.out.2.2.2.1).2).1 (St.VL.app.1 (St.VL.app.1 HD.out.2.2.2.1).2).2 ?_ ?_ ?_).mono ?_
                · have := HD.out.1; omega
                · have := HD.out.1; have := HD.out.2.2.2.2.1; omega
                · have h0 := HD.out.1; have h1 := HD.out.2.2.2.2.1; have h2 := HD.out.2.2.2.2.2.1; rw [List.length_append] at h2; omega
                rintro e w3 ⟨rfl, Z, row3, sZ, tZ, vZ, oth3⟩
                rw [List.append_nil] at row3
                have t3 : St.Stb c V l (D ++ Z) := HD.out.2.2.1.trans ((St.Stb.refl (c := c) (V := V) D).app tZ)
                have v3 : St.VL V (D ++ Z) := St.VL.app.2 ⟨(St.VL.app.1 HD.out.2.2.2.1).1, vZ⟩
                have b3 : St.Blk c (2 * s) (D ++ Z) := HD.out.2.1 _ (.last (by rw [tZ.1]; have h2 := HD.out.2.2.2.2.2.1; omega) sZ)
                have H2 := Lib.hid (And.intro row3 (And.intro (oth.trans oth3) (And.intro b3 (And.intro t3 v3))))
                clear row oth row3 oth3 sZ tZ vZ b3 t3 v3
                go_wp2_with fail
                go_roundw
                case rel => exact ⟨s * 2, D ++ Z, by go_num, by omega, by omega, H2.out.1, by rw [Nat.mul_comm]; exact H2.out.2.2.1, H2.out.2.2.2.1, H2.out.2.2.2.2, H2.out.2.1⟩
                case measure => simp [intOf] <;> omega
              · have hkj : ¬ (a : Int) + (s : Int) < (n : Int) := by omega
                have b3 : St.Blk c (2 * s) (D ++ R) := fD _ (.last (by omega) (bR.first (by omega)))
                have H2 := Lib.hid (And.intro row (And.intro oth (And.intro b3 (And.intro tR vR))))
                clear row oth b3 tR vR hD fD bR lR
                go_wp2_with fail
                go_roundw
                case rel => exact ⟨s * 2, D ++ R, by go_num, by omega, by omega, H2.out.1, by rw [Nat.mul_comm]; exact H2.out.2.2.1, H2.out.2.2.2.1, H2.out.2.2.2.2, H2.out.2.1⟩
                case measure => simp [intOf] <;> omega
        · have H2 := Lib.hid (And.intro row (And.intro oth (And.intro (bL.first (by omega)) (And.intro tL vL))))
          clear row oth bL tL vL lL
          go_wp2_with fail
          first | go_end0 | (simp only [Exit.inBlock, Exit.then]; refine bodyPost_ret (results_none rfl _ _ _) rfl ?_) | refine bodyPost_ret (results_none rfl _ _ _) rfl ?_
          exact ⟨rfl, L, H2.out.1, H2.out.2.2.1, H2.out.2.2.2.1, H2.out.2.2.2.2, H2.out.2.1⟩

set_option maxRecDepth 100000 in
set_option maxHeartbeats 2000000 in
theorem sq_SortStable (g n cp : Nat) (F : FuncId) (c : Pl → Pl → Int) (V : Pl → Prop) (hC : CmpQ F c V) (o : St.Ord c V) (hn : n ≤ 1000000) (l : List Pl) (W : World) (hr : RowQ W g n l) (hv : St.VL V l) :
    Calls Tryd.prog 21 #[.slice (some ⟨g, 0, none⟩) n cp, .func (.func F) #[] #[]] W fun e w' => e = .returned (.tuple #[]) ∧ ∃ Z, RowQ w' g n Z ∧ St.Srt c Z ∧ St.Stb c V l Z ∧ St.VL V Z ∧ Oth g W w' := by
  go_enter Tryd.func21, Tryd.ntmps21
  go_wp2_with fail
  refine (sq_stable g n cp F c V hC o hn l _ hr hv).mono ?_
  rintro e w2 ⟨rfl, h⟩
  go_wp2_with fail
  go_end0
  exact ⟨rfl, h⟩
end Go.Proofs.YteebkfdocdmboaaDoor
