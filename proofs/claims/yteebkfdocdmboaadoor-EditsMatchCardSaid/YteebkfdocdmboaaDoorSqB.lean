/- Stable sorting of pulls: a closure that compares; insertion. (printed by gen_stq.py) -/
import Derived.Test.YteebkfdocdmboaaDoorSqA
import Derived.Test.YteebkfdocdmboaaDoorTail
namespace Go.Proofs.YteebkfdocdmboaaDoor
open Go.RowKit

/-- A function that compares two pulls. -/
structure CmpQ (F : FuncId) (c : Pl → Pl → Int) (V : Pl → Prop) : Prop where
  enter : ∀ (args : Array Value) (u : World), (callFunc F args).run Tryd.prog u = .ok (.enter F args) u
  gives : ∀ (x y : Pl) (u : World), V x → V y → Calls Tryd.prog F (#[.agg #[.string x.reel, .int .i64 x.inn, .int .i64 x.out], .agg #[.string y.reel, .int .i64 y.inn, .int .i64 y.out]] ++ #[]) u fun e u' => e = .returned (.int .i64 (c x y)) ∧ Below u.heap.size u u'
theorem CmpQ.at {F : FuncId} {c : Pl → Pl → Int} {V : Pl → Prop} (h : CmpQ F c V) {x y : Pl} {r : Int} (hr : c x y = r) (hx : V x) (hy : V y) (u : World) : Calls Tryd.prog F (#[.agg #[.string x.reel, .int .i64 x.inn, .int .i64 x.out], .agg #[.string y.reel, .int .i64 y.inn, .int .i64 y.out]] ++ #[]) u fun e u' => e = .returned (.int .i64 r) ∧ Below u.heap.size u u' := by
  subst hr; exact h.gives x y u hx hy
/-- What a list's place holds. -/
theorem rowQ_at {w : World} {g n i : Nat} {x : Pl} {l A R : List Pl} (h : RowQ w g n l) (hl : l = A ++ x :: R) (hi : i = A.length) : PlAt w g i x ∧ i < n := by
  have hn := h.len
  have hlt : i < n := by rw [← hn, hl, List.length_append, List.length_cons]; omega
  refine ⟨?_, hlt⟩
  have h1 := h.cell i hlt
  rw [hl, List.getD_eq_getElem?_getD, St.get_at hi] at h1
  exact h1
/-- Two neighbours turned. -/
theorem rowQ_swap {w : World} {g n i : Nat} {x y : Pl} {l A R : List Pl} (h : RowQ w g n l) (hl : l = A ++ x :: y :: R) (hi : i = A.length) : RowQ (put3 (put3 w g i y) g (i + 1) x) g n (A ++ y :: x :: R) := by
  have hn := h.len
  have hlt : i + 1 < n := by rw [← hn, hl, List.length_append, List.length_cons, List.length_cons]; omega
  have h1 := (h.store i y (by omega)).store (i + 1) x hlt
  rw [hl, St.set_at hi, show A ++ y :: y :: R = (A ++ [y]) ++ y :: R by simp, St.set_at (by simp; omega)] at h1
  simpa using h1
theorem rowQ_swap' {w : World} {g n i : Nat} {x y : Pl} {l A R : List Pl} (h : RowQ w g n l) (hl : l = A ++ x :: y :: R) (hi : i = A.length) : RowQ (put3 (put3 w g (i + 1) x) g i y) g n (A ++ y :: x :: R) := by
  have hn := h.len
  have hlt : i + 1 < n := by rw [← hn, hl, List.length_append, List.length_cons, List.length_cons]; omega
  have h1 := (h.store (i + 1) x hlt).store i y (by omega)
  rw [hl, show A ++ x :: y :: R = (A ++ [x]) ++ y :: R by simp, St.set_at (by simp; omega), show (A ++ [x]) ++ x :: R = A ++ x :: x :: R by simp, St.set_at hi] at h1
  exact h1

set_option maxRecDepth 100000 in
set_option maxHeartbeats 4000000 in
theorem sq_insertion0 (g n cp : Nat) (F : FuncId) (W : World) (a b : Int) (h : b ≤ a + 1) (ha : 0 ≤ a) (ha2 : a ≤ 1000000) :
    Calls Tryd.prog 54 #[.slice (some ⟨g, 0, none⟩) n cp, .int .i64 a, .int .i64 b, .func (.func F) #[] #[]] W fun e w' => e = .returned (.tuple #[]) ∧ w' = W := by
  go_enter Tryd.func54, Tryd.ntmps54
  go_wp2_with fail
  go_loopw [8] (fun iv wr => iv = .int .i64 (a + 1) ∧ wr = W) (fun _ _ => 0)
  case atStart => exact ⟨rfl, rfl⟩
  case round =>
    obtain ⟨rfl, rfl⟩ := hrel
    go_wp2_with fail
    go_end0
    exact ⟨rfl, rfl⟩

set_option maxRecDepth 100000 in
set_option maxHeartbeats 8000000 in
theorem sq_insertion2 (g n cp : Nat) (F : FuncId) (c : Pl → Pl → Int) (V : Pl → Prop) (hC : CmpQ F c V) (o : St.Ord c V) (hn : n ≤ 1000000) (A T R : List Pl) (W : World) (hr : RowQ W g n (A ++ T ++ R)) (hT : 2 ≤ T.length) (hv : St.VL V T) (a b : Nat) (ha : a = A.length) (hb : b = A.length + T.length) :
    Calls Tryd.prog 54 #[.slice (some ⟨g, 0, none⟩) n cp, .int .i64 (a : Int), .int .i64 (b : Int), .func (.func F) #[] #[]] W fun e w' => e = .returned (.tuple #[]) ∧ ∃ Z, RowQ w' g n (A ++ Z ++ R) ∧ St.Srt c Z ∧ St.Stb c V T Z ∧ St.VL V Z ∧ Oth g W w' := by
  have hcf := hC.enter
  have hl := hr.len
  simp only [List.length_append] at hl
  have b1 : b ≤ n := by omega
  have b2 : a + 2 ≤ b := by omega
  have HA := Lib.hid ha
  have HB := Lib.hid hb
  have HV := Lib.hid hv
  clear hl ha hb hv
  go_enter Tryd.func54, Tryd.ntmps54
  go_wp2_with fail
  go_loopw [8] (fun iv wr => ∃ (i : Nat) (Z T1 Q : List Pl), iv = .int .i64 (i : Int) ∧ a + 1 ≤ i ∧ i ≤ b ∧ T = T1 ++ Q ∧ RowQ wr g n (A ++ Z ++ Q ++ R) ∧ i = a + Z.length ∧ St.Srt c Z ∧ St.Stb c V T1 Z ∧ St.VL V Z ∧ Oth g W wr) (fun iv _ => b - (intOf iv).toNat)
  case atStart =>
    obtain ⟨t, T2, rfl⟩ := St.split_one (l := T) (by omega)
    exact ⟨a + 1, [t], [t], T2, by go_num, by omega, by omega, rfl, by simpa using hr, rfl, List.pairwise_singleton _ _, St.Stb.refl _, St.VL.cons.2 ⟨(St.VL.cons.1 HV.out).1, fun _ h => by cases h⟩, Oth.refl _ _⟩
  case round =>
    clear hr
    obtain ⟨i, Z, T1, Q, rfl, hi1, hi2, hTQ, row, hiZ, sZ, tZ, vZ, oth⟩ := hrel
    have hT1 : T1.length = Z.length := tZ.1.symm
    have hlT : T.length = T1.length + Q.length := by rw [hTQ, List.length_append]
    by_cases hlt : i < b
    · obtain ⟨x, Q2, rfl⟩ := St.split_one (l := Q) (by have := HA.out; have := HB.out; omega)
      have hvx : V x := by
        have := HV.out
        rw [hTQ] at this
        exact (St.VL.cons.1 (St.VL.app.1 this).2).1
      have HZ := Lib.hid (And.intro hTQ (And.intro hiZ (And.intro sZ (And.intro tZ vZ))))
      clear hTQ sZ tZ hT1 hlT vZ hiZ
      go_wp2_with fail
      go_loopw [9] (fun jv wr2 => ∃ (j : Nat) (S1 S2 : List Pl), jv = .int .i64 (j : Int) ∧ Z = S1 ++ S2 ∧ RowQ wr2 g n (A ++ S1 ++ x :: S2 ++ Q2 ++ R) ∧ j = a + S1.length ∧ j ≤ i ∧ (∀ y ∈ S2, St.lt c x y) ∧ Oth g W wr2) (fun jv _ => (intOf jv).toNat)
      case atStart => exact ⟨i, Z, [], rfl, by simp, by simpa using row, HZ.out.2.1, Nat.le_refl _, (fun _ h => by cases h), oth⟩
      case round =>
        clear row oth
        obtain ⟨j, S1, S2, rfl, hZ, row, hj, hji, hS2, oth⟩ := hrel
        have done : (∀ y ∈ S1, St.le c y x) → ∃ (i' : Nat) (Z' T1' Q' : List Pl), i + 1 = i' ∧ T = T1' ++ Q' ∧ A ++ S1 ++ x :: S2 ++ Q2 ++ R = A ++ Z' ++ Q' ++ R ∧ i' = a + Z'.length ∧ St.Srt c Z' ∧ St.Stb c V T1' Z' ∧ St.VL V Z' := by
          intro h1
          obtain ⟨q1, q2, q3, q4, q5⟩ := HZ.out
          rw [hZ] at q2 q3 q4 q5
          obtain ⟨r1, r2⟩ := St.insert_at o q5 hvx q3 h1 hS2
          refine ⟨i + 1, S1 ++ x :: S2, T1 ++ [x], Q2, rfl, by rw [q1]; simp, by simp, by rw [q2]; simp; omega, r1, (q4.app (St.Stb.refl [x])).trans r2, ?_⟩
          obtain ⟨v1, v2⟩ := St.VL.app.1 q5
          exact St.VL.app.2 ⟨v1, St.VL.cons.2 ⟨hvx, v2⟩⟩
        have Hdone := Lib.hid done
        clear done
        have lg := row.lt
        by_cases h0 : S1.length = 0
        · have hja : (j : Int) = (a : Int) := by omega
          obtain ⟨i', Z', T1', Q', d1, d2, d3, d4, d5, d6, d7⟩ := Hdone.out (by rw [List.length_eq_zero_iff.1 h0]; intro y hy; cases hy)
          rw [d3] at row
          have HD := Lib.hid (And.intro row (And.intro oth (And.intro d2 (And.intro d4 (And.intro d5 (And.intro d6 d7))))))
          clear row oth d2 d3 d4 d5 d6 d7 hZ hS2 h0 hj
          go_wp2_with fail
          refine wp_region_all (fun z : BW wr.heap.size wr => z.w) (by kernel_rfl) (by kernel_rfl) (BW.start _ _) rfl ?_
          repeat (go_big_quiet_step (fail))
          refine wpQuiet_nil ?_
          intro z
          have hzb := z.below
          generalize z.w = wq at *
          go_wp2_with fail
          go_roundw
          case rel => exact ⟨i', Z', T1', Q', by rw [← d1]; go_num, by omega, by omega, HD.out.2.2.1, HD.out.1.keep hzb, HD.out.2.2.2.1, HD.out.2.2.2.2.1, HD.out.2.2.2.2.2.1, HD.out.2.2.2.2.2.2, HD.out.2.1.trans (Oth.of_below hzb)⟩
          case measure => simp [intOf] <;> omega
        · obtain ⟨S3, y, rfl⟩ := St.split_last (l := S1) (by omega)
          rw [List.length_append, List.length_singleton] at hj
          have hjb : (a : Int) < (j : Int) := by omega
          have hvy : V y := by
            have := HZ.out.2.2.2.2
            rw [hZ] at this
            exact (St.VL.cons.1 (St.VL.app.1 (St.VL.app.1 this).1).2).1
          obtain ⟨j1, rfl⟩ : ∃ j1, j = j1 + 1 := ⟨j - 1, by omega⟩
          replace hjb : decide ((a : Int) < (j1 : Int) + 1) = true := decide_eq_true (by omega)
          have e1 : A ++ (S3 ++ [y]) ++ x :: S2 ++ Q2 ++ R = (A ++ S3) ++ y :: x :: (S2 ++ Q2 ++ R) := by simp
          have l1 : j1 = (A ++ S3).length := by have := HA.out; simp; omega
          obtain ⟨⟨p1, p1b, p1c⟩, b3⟩ := rowQ_at row e1 l1
          obtain ⟨⟨p2, p2b, p2c⟩, b4⟩ := rowQ_at (i := j1 + 1) row (show A ++ (S3 ++ [y]) ++ x :: S2 ++ Q2 ++ R = (A ++ S3 ++ [y]) ++ x :: (S2 ++ Q2 ++ R) by simp) (by have := HA.out; simp; omega)
          obtain ⟨r, hr⟩ : ∃ r, c x y = r := ⟨_, rfl⟩
          by_cases hneg : r < 0
          · have row2 := rowQ_swap row e1 l1
            have row3 := rowQ_swap' row e1 l1
            have f1 := row.frozen
            have f2 := row.frozen
            have on2 : Oth g W (put3 (put3 wr g (j1) x) g (j1 + 1) y) := oth.trans (Oth.of_only (put3_only (put3_only (Only.refl g wr))))
            have hlx : St.lt c x y := by rw [← hr] at hneg; exact hneg
            have HD := Lib.hid (And.intro row (And.intro oth (And.intro hZ (And.intro hlx hS2))))
            clear row2 row3 on2 oth hZ hS2 hlx row h0 hj f1 f2
            have HL := Lib.hid (And.intro e1 l1)
            clear e1 l1
            go_wp2_with fail
            refine wp_region_all (fun z : BW wr.heap.size wr => z.w) (by kernel_rfl) (by kernel_rfl) (BW.start _ _) rfl ?_
            repeat (go_big_quiet_step (first
              | (exact BW.call (Nat.le_refl _) _ (hC.at hr hvx hvy _))))
            refine wpQuiet_nil ?_
            intro z
            have hzb := z.below
            generalize z.w = wq at *
            clear z p1 p1b p1c p2 p2b p2c
            have row := HD.out.1.keep hzb
            have oth := HD.out.2.1.trans (Oth.of_below hzb)
            clear hzb
            obtain ⟨⟨p1, p1b, p1c⟩, _⟩ := rowQ_at row HL.out.1 HL.out.2
            obtain ⟨⟨p2, p2b, p2c⟩, _⟩ := rowQ_at (i := j1 + 1) row (show A ++ (S3 ++ [y]) ++ x :: S2 ++ Q2 ++ R = (A ++ S3 ++ [y]) ++ x :: (S2 ++ Q2 ++ R) by simp) (by have := HL.out.2; simp at this ⊢; omega)
            have f1 := row.frozen
            have f2 := row.frozen
            have row3 : RowQ (put3 (put3 wq g (j1 + 1) y) g (j1) x) g n (A ++ S3 ++ x :: (y :: S2) ++ Q2 ++ R) := by simpa using rowQ_swap' row HL.out.1 HL.out.2
            have oth3 : Oth g W (put3 (put3 wq g (j1 + 1) y) g (j1) x) := oth.trans (Oth.of_only (put3_only (put3_only (Only.refl g wq))))
            obtain ⟨ne1, ne2, ne3, ne4, ne5, ne6, ne7, ne8, nea⟩ := ne9 (show j1 ≠ j1 + 1 by omega)
            obtain ⟨nf1, nf2, nf3, nf4, nf5, nf6, nf7, nf8, nfa⟩ := ne9 (show j1 + 1 ≠ j1 by omega)
            replace row3 := row3.drew
            replace oth3 := oth3.drew
            simp only [put3] at row3 oth3
            have H2 := Lib.hid (And.intro row3 oth3)
            clear row oth row3 oth3
            go_wp2_with fail
            go_region
            all_goals go_wp2_with fail
            all_goals go_roundw
            case rel => exact ⟨j1, S3, y :: S2, by go_num, by rw [HD.out.2.2.1]; simp, H2.out.1, by have h1 := HL.out.2; have h2 := HA.out; rw [List.length_append] at h1; omega, by omega, by intro q hq; rcases List.mem_cons.1 hq with rfl | hq; exact HD.out.2.2.2.1; exact HD.out.2.2.2.2 q hq, H2.out.2⟩
            case measure => simp [intOf] <;> omega
          · obtain ⟨i', Z', T1', Q', d1, d2, d3, d4, d5, d6, d7⟩ := Hdone.out (by
              intro z hz
              have q := HZ.out
              rw [hZ] at q
              obtain ⟨_, _, q3, _, q5⟩ := q
              have hle : St.le c y x := by rw [← hr] at hneg; exact hneg
              obtain ⟨v1, _⟩ := St.VL.app.1 q5
              obtain ⟨s1, _, _⟩ := St.Srt.app.1 q3
              rcases List.mem_append.1 hz with hz | hz
              · exact St.le_trans o (v1 z (List.mem_append_left _ hz)) hvy hvx ((St.Srt.app.1 s1).2.2 z hz y (by simp)) hle
              · have : z = y := by simpa using hz
                subst this; exact hle)
            rw [d3] at row
            have HD := Lib.hid (And.intro row (And.intro oth (And.intro d2 (And.intro d4 (And.intro d5 (And.intro d6 d7))))))
            clear row oth d2 d3 d4 d5 d6 d7 hZ hS2 h0 hj e1 l1
            go_wp2_with fail
            refine wp_region_all (fun z : BW wr.heap.size wr => z.w) (by kernel_rfl) (by kernel_rfl) (BW.start _ _) rfl ?_
            repeat (go_big_quiet_step (first
              | (exact BW.call (Nat.le_refl _) _ (hC.at hr hvx hvy _))))
            refine wpQuiet_nil ?_
            intro z
            have hzb := z.below
            generalize z.w = wq at *
            clear p1 p1b p1c p2 p2b p2c
            go_wp2_with fail
            go_roundw
            case rel => exact ⟨i', Z', T1', Q', by rw [← d1]; go_num, by omega, by omega, HD.out.2.2.1, HD.out.1.keep hzb, HD.out.2.2.2.1, HD.out.2.2.2.2.1, HD.out.2.2.2.2.2.1, HD.out.2.2.2.2.2.2, HD.out.2.1.trans (Oth.of_below hzb)⟩
            case measure => simp [intOf] <;> omega
    · obtain rfl : Q = [] := List.length_eq_zero_iff.1 (by have := HA.out; have := HB.out; omega)
      rw [List.append_nil] at hTQ
      subst hTQ
      rw [List.append_nil] at row
      go_wp2_with fail
      go_end0
      exact ⟨rfl, Z, row, sZ, tZ, vZ, oth⟩
end Go.Proofs.YteebkfdocdmboaaDoor
