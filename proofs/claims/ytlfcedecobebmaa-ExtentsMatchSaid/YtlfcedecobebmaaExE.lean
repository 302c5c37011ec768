/- scope.Extent and scope.Rank, dyeref1.Extent and dyeref1.Rank. -/
import Derived.Test.YtlfcedecobebmaaExO
namespace Go.Proofs.Ytlfcedecobebmaa
open Go.RowKit

theorem canon_lt32 {b : Nat} (h : b < 4294967296) : canon b < 4294967296 := by
  unfold canon
  split
  · decide
  · exact h
theorem fop_lt32 (op : BinOp) (x y : Nat) (hop : op = .add ∨ op = .sub ∨ op = .mul ∨ op = .quo) : fop op x y < 4294967296 := by
  cases h : rd (fop op x y) with
  | number s m i => exact fop_lt op h hop
  | nan s f =>
    have e := canon_fop op x y
    rw [canon_of_nan (by rw [isNaN_iff, h]; rfl)] at e
    rw [← e]; decide
  | infinity s =>
    -- an infinity comes of a write alone
    unfold fop at h ⊢
    cases hf : floatBits op .f32 x y with
    | none => decide
    | some r =>
      refine canon_lt32 ?_
      have hw : ∀ d : Ieee.Datum, FloatKind.f32.format.write d < 4294967296 ∨ d.isNaN = true := by
        intro d
        have word_lt : ∀ (s : Bool) (r : Nat), r ≤ FloatKind.f32.format.infRung → FloatKind.f32.format.word s r < 4294967296 := by
          intro s r hr
          have hs : FloatKind.f32.format.signWeight = 2147483648 := by decide
          unfold Ieee.Format.word
          rw [hs]
          rw [f32_inf] at hr
          split <;> omega
        cases d with
        | nan s f => exact .inr rfl
        | infinity s => exact .inl (word_lt s _ (Nat.le_refl _))
        | number s m p =>
          refine .inl ?_
          show FloatKind.f32.format.nearest s m p < _
          unfold Ieee.Format.nearest
          split
          · exact word_lt s 0 (Nat.zero_le _)
          · exact word_lt s _ (Nat.min_le_right _ _)
      have : ∃ d : Ieee.Datum, d.isNaN = false ∧ r = FloatKind.f32.format.write d := by
        rcases hop with rfl | rfl | rfl | rfl
        · rw [bits_add] at hf; obtain ⟨d, h1, h2⟩ := map_some hf; exact ⟨d, Bool.eq_false_iff.2 fun h => sum_not_nan h1 (by cases d <;> simp_all [Ieee.Datum.isNaN]), h2⟩
        · rw [bits_sub] at hf; obtain ⟨d, h1, h2⟩ := map_some hf; exact ⟨d, Bool.eq_false_iff.2 fun h => sum_not_nan h1 (by cases d <;> simp_all [Ieee.Datum.isNaN]), h2⟩
        · rw [bits_mul] at hf; obtain ⟨d, h1, h2⟩ := map_some hf; exact ⟨d, Bool.eq_false_iff.2 fun h => product_not_nan h1 (by cases d <;> simp_all [Ieee.Datum.isNaN]), h2⟩
        · rw [bits_quo] at hf; obtain ⟨d, h1, h2⟩ := map_some hf; exact ⟨d, Bool.eq_false_iff.2 fun h => quotient_not_nan h1 (by cases d <;> simp_all [Ieee.Datum.isNaN]), h2⟩
      obtain ⟨d, h1, rfl⟩ := this
      rcases hw d with h2 | h2
      · exact h2
      · rw [h1] at h2; cases h2
theorem valsL_wd {xs : List Nat} (hb : ∀ v ∈ xs, v < 4294967296) (ch M : Nat) : St.VL Wd (valsL xs ch M) := by
  intro v hv
  unfold valsL at hv
  obtain ⟨m, _, rfl⟩ := List.mem_map.1 hv
  unfold valM
  split
  · unfold lumM lumaV
    exact ⟨fop_lt32 _ _ _ (by simp), canon_fop _ _ _⟩
  · refine ⟨canon_lt32 ?_, canon_idem _⟩
    rw [List.getD_eq_getElem?_getD]
    cases h : xs[4 * m + ch]? with
    | none => decide
    | some v => exact hb v (List.mem_of_getElem? h)

theorem RowP.keep' {w : World} {g n p o : Nat} {v : Value} {xs : List Nat} (h : RowP w g n xs) (hp : g ≠ p) : RowP (w.setCell ⟨p, o, none⟩ v) g n xs := by
  obtain ⟨hl, cur, R, h1, h2⟩ := h
  exact ⟨hl, cur, R, by rw [Below.heap_setCell _ _ _ _ hp]; exact h1, h2⟩
/-- What Extent gives for the values l. -/
def extOf (l : List Nat) : Value := match keepB isNaN l with
  | [] => .agg #[.float .f32 0, .float .f32 0, .float .f32 0, .int .i64 (l.length : Int)]
  | m :: r => .agg #[.float .f32 (minF lessP r m), .float .f32 (maxF lessP r m), .float .f32 (meanV (r.length + 1) (m :: r)), .int .i64 ((l.length : Int) - ((r.length + 1 : Nat) : Int))]

theorem scope_values (x y w h : Int) (b o n c M ch : Nat) (xs : List Nat) (W : World) (hck : checkFrame x y w h n = 0) (hM : (M : Int) = w * h) (hM2 : M ≤ 65536) (hn : n = 4 * M) (hch : ch ≤ 4) (hxs : xs.length = n) (hrd : Rd W b o xs)
    (hw1 : 1 ≤ w) (hw2 : w ≤ 256) (hh1 : 1 ≤ h) (hh2 : h ≤ 256) (hnc : n ≤ c) :
    Calls Try.prog 15 #[.agg #[.int .i64 x, .int .i64 y, .int .i64 w, .int .i64 h, .slice (some ⟨b, o, none⟩) n c], .int .i64 (ch : Int)] W fun e w' =>
      ∃ g, e = .returned (.tuple #[.slice (some ⟨g, 0, none⟩) M M, .int .i64 0]) ∧ W.heap.size ≤ g ∧ Row w' g M (valsL xs ch M) ∧ Below W.heap.size W w' := by
  by_cases h4 : ch = 4
  · subst h4
    exact scope_values_lu x y w h b o n c M xs W hck hM hM2 hn hxs hrd hw1 hw2 hh1 hh2 hnc
  · exact scope_values_pl x y w h b o n c M ch xs W hck hM hM2 hn (by omega) hxs hrd hw1 hw2 hh1 hh2
theorem ref_values (x y w h : Int) (b o n c M ch : Nat) (xs : List Nat) (W : World) (hM1 : 1 ≤ M) (hM2 : M ≤ 65536) (hn : n = 4 * M) (hch : ch ≤ 4) (hxs : xs.length = n) (hrd : Rd W b o xs) (hnc : n ≤ c) :
    Calls Try.prog 31 #[.agg #[.int .i64 x, .int .i64 y, .int .i64 w, .int .i64 h, .slice (some ⟨b, o, none⟩) n c], .int .i64 (ch : Int)] W fun e w' =>
      ∃ g cp, e = .returned (.slice (some ⟨g, 0, none⟩) M cp) ∧ M ≤ cp ∧ W.heap.size ≤ g ∧ Rd w' g 0 (valsL xs ch M) ∧ Below W.heap.size W w' := by
  have fin : ∀ (e : Ending) (w' : World), (∃ v, e = Ending.returned v ∧ Ow w' W.heap.size v (valsL xs ch M) ∧ Below W.heap.size W w') → ∃ g cp, e = Ending.returned (.slice (some ⟨g, 0, none⟩) M cp) ∧ M ≤ cp ∧ W.heap.size ≤ g ∧ Rd w' g 0 (valsL xs ch M) ∧ Below W.heap.size W w' := by
    rintro e w' ⟨v, rfl, how, hb⟩
    have hl := valsL_len xs ch M
    obtain ⟨g, cp, rfl, h1, h2, h3⟩ := how.rd (by intro h0; rw [h0] at hl; simp at hl; omega)
    rw [hl] at *
    exact ⟨g, cp, rfl, h1, h2, h3, hb⟩
  by_cases h4 : ch = 4
  · subst h4
    exact (ref_values_lu x y w h b o n c M xs W hM2 hn hxs hrd hnc).mono fin
  · exact (ref_values_pl x y w h b o n c M ch xs W hM2 hn (by omega) hxs hrd).mono fin

set_option maxRecDepth 100000 in
set_option maxHeartbeats 8000000 in
theorem scope_Extent (x y w h : Int) (b o n c M ch : Nat) (xs : List Nat) (W : World) (hck : checkFrame x y w h n = 0) (hM : (M : Int) = w * h) (hM1 : 1 ≤ M) (hM2 : M ≤ 65536) (hn : n = 4 * M) (hch : ch ≤ 4) (hxs : xs.length = n) (hrd : Rd W b o xs)
    (hw1 : 1 ≤ w) (hw2 : w ≤ 256) (hh1 : 1 ≤ h) (hh2 : h ≤ 256) (hnc : n ≤ c) (hb : ∀ v ∈ xs, v < 4294967296) :
    Calls Try.prog 6 #[.agg #[.int .i64 x, .int .i64 y, .int .i64 w, .int .i64 h, .slice (some ⟨b, o, none⟩) n c], .int .i64 (ch : Int)] W fun e w' =>
      e = .returned (.tuple #[extOf (valsL xs ch M), .int .i64 0]) ∧ Below W.heap.size W w' := by
  have hwd := valsL_wd hb ch M
  have hll := valsL_len xs ch M
  have Hval := Lib.hid (fun (u : World) (hu : Below W.heap.size W u) => scope_values x y w h b o n c M ch xs u hck hM hM2 hn hch hxs (hrd.below hu hrd.lt) hw1 hw2 hh1 hh2 hnc)
  generalize valsL xs ch M = l at *
  clear hck hM hn hxs hrd hw1 hw2 hh1 hh2 hnc hb hch
  go_enter Try.func6, Try.ntmps6
  go_upto_region 1 with fail
  refine name_world ?_
  intro w0 hw0
  have x2 : Bx w0 W.heap.size 26 #[.int .i64 x, .int .i64 y, .int .i64 w, .int .i64 h, .slice (some ⟨b, o, none⟩) n c] := by rw [hw0]; exact (Bx.new _ _ _).alloc _
  have x4 : Bx w0 (W.heap.size + 1) 31 #[.float .f32 0, .float .f32 0, .float .f32 0, .int .i64 0] := by rw [hw0]; exact Bx.at _ (by simp)
  have B : Below W.heap.size W w0 := by rw [hw0]; exact bnew (bnew (Below.refl _ W))
  have hs0 : w0.heap.size = W.heap.size + 2 := by rw [hw0]; simp
  clear hw0
  obtain ⟨q1, f1, l1⟩ := x2.all
  go_wp2_with fail
  refine (Hval.out w0 B).mono ?_
  rintro e w1 ⟨g, rfl, hg, row, hb1⟩
  replace x4 := x4.keep hb1
  have hsz0 := x4.lt
  rw [hs0] at hg
  have hg1 : W.heap.size + 2 ≤ g := hg
  replace B := bcall B hb1
  clear hb1 q1 f1 l1 x2 hg Hval hs0
  go_wp2_with fail
  refine (sl_Clone g 0 M M l _ hll hM1 (by omega) row.rd).mono ?_
  rintro e w2 ⟨g2, cp, rfl, hcp, hg2, row2, hb2⟩
  replace x4 := x4.keep hb2
  replace B := bcall B hb2
  have hg2' : W.heap.size + 2 ≤ g2 := by have := row.lt; omega
  clear hb2 row hg2 hg1
  go_wp2_with fail
  refine (sl_DeleteFunc g2 M cp _ isNaN predP l _ (by omega) hcp row2).mono ?_
  rintro e w3 ⟨rfl, row3, oth⟩
  have l4 := x4.lt
  replace x4 : Bx w3 (W.heap.size + 1) 31 #[.float .f32 0, .float .f32 0, .float .f32 0, .int .i64 0] := oth.bx (by omega) x4
  replace B := B.trans (oth.below (by omega) B.size)
  have hkl : (keepB isNaN l).length ≤ M := by rw [← hll]; exact List.length_filter_le _ _
  have hkw : St.VL Wd (keepB isNaN l) := fun v hv => hwd v (List.mem_filter.1 hv).1
  have hex : extOf l = match keepB isNaN l with
    | [] => .agg #[.float .f32 0, .float .f32 0, .float .f32 0, .int .i64 (M : Int)]
    | m :: r => .agg #[.float .f32 (minF lessP r m), .float .f32 (maxF lessP r m), .float .f32 (meanV (r.length + 1) (m :: r)), .int .i64 ((M : Int) - ((r.length + 1 : Nat) : Int))] := by
    unfold extOf; rw [hll]
  generalize keepB isNaN l = K at *
  clear oth row2 hwd hll l4
  cases K with
  | nil =>
    have hex2 : extOf l = .agg #[.float .f32 0, .float .f32 0, .float .f32 0, .int .i64 (M : Int)] := hex
    have HE := Lib.hid hex2
    clear hex hex2 row3 hkl hkw
    go_upto_region 6 with fail
    refine name_world ?_
    intro w4 hw4
    have x9 : Bx w4 w3.heap.size 31 #[.float .f32 0, .float .f32 0, .float .f32 0, .int .i64 (M : Int)] := by rw [hw4]; exact Bx.new _ _ _
    have hb4 : Below w3.heap.size w3 w4 := by rw [hw4]; exact bnew (Below.refl _ _)
    replace x4 := x4.keep hb4
    replace B := bcall B hb4
    clear hb4 hw4
    obtain ⟨q4, f4, l4⟩ := x4.all
    obtain ⟨q9, f9, l9⟩ := x9.all
    clear x4 x9
    go_wp2_with fail
    refine bodyPost_ret (v := .tuple #[.agg #[.float .f32 0, .float .f32 0, .float .f32 0, .int .i64 (M : Int)], .int .i64 0]) (by simp [results, Try.results6, go_sem, q4]) rfl ⟨by rw [HE.out], ?_⟩
    exact bput (by omega) (bput (by omega) (bput (by omega) (bput (by omega) B)))
  | cons m r =>
    have hex2 : extOf l = .agg #[.float .f32 (minF lessP r m), .float .f32 (maxF lessP r m), .float .f32 (meanV (r.length + 1) (m :: r)), .int .i64 ((M : Int) - ((r.length + 1 : Nat) : Int))] := hex
    obtain ⟨hm, hr⟩ := St.VL.cons.1 hkw
    have hk1 : r.length + 1 ≤ M := hkl
    clear hkl
    have hmin := fun (u : World) (hu : RowP u g2 (r.length + 1) (m :: r)) => sl_MinFunc g2 (r.length + 1) cp _ lessP Wd cmpP (by omega) m r u hu hm hr
    have hmax := fun (u : World) (hu : RowP u g2 (r.length + 1) (m :: r)) => sl_MaxFunc g2 (r.length + 1) cp _ lessP Wd cmpP (by omega) m r u hu hm hr
    have hmean := fun (u : World) (hu : RowP u g2 (r.length + 1) (m :: r)) => num_Mean g2 (r.length + 1) cp (m :: r) u rfl (by omega) (by omega) (by omega) hu.rd
    rw [List.length_cons] at row3 ⊢
    generalize meanV (r.length + 1) (m :: r) = me at *
    generalize minF lessP r m = mi at *
    generalize maxF lessP r m = ma at *
    obtain ⟨N, hN⟩ : ∃ N, N = r.length + 1 := ⟨_, rfl⟩
    rw [← hN] at row3 hex2 hk1 hmin hmax hmean ⊢
    have hN1 : 1 ≤ N := by omega
    have HM := Lib.hid (And.intro hmin (And.intro hmax hmean))
    have HE := Lib.hid hex2
    clear hex hex2 hkw hm hr hmin hmax hmean hN
    go_upto_region 6 with fail
    refine name_world ?_
    intro w4 hw4
    have x9 : Bx w4 w3.heap.size 31 #[.float .f32 0, .float .f32 0, .float .f32 0, .int .i64 ((M : Int) - (N : Int))] := by rw [hw4]; exact Bx.new _ _ _
    have hb4 : Below w3.heap.size w3 w4 := by rw [hw4]; exact bnew (Below.refl _ _)
    replace x4 := x4.keep hb4
    have g9 := row3.lt
    replace row3 := row3.keep hb4
    have l4 := B.size
    replace B := bcall B hb4
    clear hb4 hw4
    generalize w3.heap.size = p9 at *
    go_wp2_with fail
    refine (HM.out.2.2 _ row3).mono ?_
    rintro e w5 ⟨rfl, hb5⟩
    replace x4 := x4.keep hb5
    replace x9 := x9.keep hb5
    replace row3 := row3.keep hb5
    replace B := bcall B hb5
    clear hb5
    obtain ⟨q9, f9, l9⟩ := x9.all
    go_upto_region 8 with fail
    refine name_world ?_
    intro w6 hw6
    have x9b : Bx w6 p9 31 #[.float .f32 0, .float .f32 0, .float .f32 me, .int .i64 ((M : Int) - (N : Int))] := by rw [hw6]; simpa using x9.set 2 (.float .f32 me)
    replace x4 : Bx w6 (W.heap.size + 1) 31 #[.float .f32 0, .float .f32 0, .float .f32 0, .int .i64 0] := by rw [hw6]; exact x4.other _ _ (by show W.heap.size + 1 ≠ p9; omega)
    replace B : Below W.heap.size W w6 := by rw [hw6]; exact bput (by omega) B
    replace row3 : RowP w6 g2 N (m :: r) := by rw [hw6]; exact row3.keep' (by show g2 ≠ p9; omega)
    clear hw6 x9 q9 f9 l9
    go_wp2_with fail
    refine (HM.out.1 _ row3).mono ?_
    rintro e w7 ⟨rfl, hb7⟩
    replace x4 := x4.keep hb7
    replace x9b := x9b.keep hb7
    replace row3 := row3.keep hb7
    replace B := bcall B hb7
    clear hb7
    go_wp2_with fail
    refine (HM.out.2.1 _ row3).mono ?_
    rintro e w8 ⟨rfl, hb8⟩
    replace x4 := x4.keep hb8
    replace x9b := x9b.keep hb8
    replace B := bcall B hb8
    clear hb8 row3
    obtain ⟨q9, f9, l9⟩ := x9b.all
    go_upto_region 9 with fail
    refine name_world ?_
    intro w9 hw9
    have x9c : Bx w9 p9 31 #[.float .f32 mi, .float .f32 ma, .float .f32 me, .int .i64 ((M : Int) - (N : Int))] := by rw [hw9]; simpa using (x9b.set 0 (.float .f32 mi)).set 1 (.float .f32 ma)
    replace x4 : Bx w9 (W.heap.size + 1) 31 #[.float .f32 0, .float .f32 0, .float .f32 0, .int .i64 0] := by rw [hw9]; exact (x4.other _ _ (by show W.heap.size + 1 ≠ p9; omega)).other _ _ (by show W.heap.size + 1 ≠ p9; omega)
    replace B : Below W.heap.size W w9 := by rw [hw9]; exact bput (by omega) (bput (by omega) B)
    clear hw9 x9b q9 f9 l9
    obtain ⟨q4, f4, l4⟩ := x4.all
    obtain ⟨q9, f9, l9⟩ := x9c.all
    clear x4 x9c
    go_wp2_with fail
    refine bodyPost_ret (v := .tuple #[.agg #[.float .f32 mi, .float .f32 ma, .float .f32 me, .int .i64 ((M : Int) - (N : Int))], .int .i64 0]) (by simp [results, Try.results6, go_sem, q4]) rfl ⟨by rw [HE.out], ?_⟩
    exact bput (by omega) (bput (by omega) (bput (by omega) (bput (by omega) B)))

theorem rank_place {M : Nat} {part : Int} (h1 : 1 ≤ M) (h2 : M ≤ 65536) (p0 : 0 ≤ part) (p1 : part ≤ 100) : ∃ q : Nat, q < M ∧ (((M : Int) - 1) * part).tdiv 100 = (q : Int) ∧ q = (M - 1) * part.toNat / 100 := by
  obtain ⟨p, rfl⟩ : ∃ p : Nat, part = (p : Int) := ⟨part.toNat, by omega⟩
  refine ⟨(M - 1) * p / 100, ?_, ?_, rfl⟩
  · have : (M - 1) * p ≤ (M - 1) * 100 := Nat.mul_le_mul_left _ (by omega)
    omega
  · rw [show ((M : Int) - 1) * (p : Int) = (((M - 1) * p : Nat) : Int) by push_cast; rw [Int.natCast_sub h1]; rfl]
    rw [Int.tdiv_eq_ediv_of_nonneg (by omega)]
    exact (Int.natCast_ediv ((M - 1) * p) 100).symm

set_option maxRecDepth 100000 in
set_option maxHeartbeats 8000000 in
theorem scope_Rank (x y w h : Int) (b o n c M ch : Nat) (part : Int) (xs : List Nat) (W : World) (hck : checkFrame x y w h n = 0) (hM : (M : Int) = w * h) (hM1 : 1 ≤ M) (hM2 : M ≤ 65536) (hn : n = 4 * M) (hch : ch ≤ 4) (hxs : xs.length = n) (hrd : Rd W b o xs)
    (hw1 : 1 ≤ w) (hw2 : w ≤ 256) (hh1 : 1 ≤ h) (hh2 : h ≤ 256) (hnc : n ≤ c) (hb : ∀ v ∈ xs, v < 4294967296) :
    Calls Try.prog 7 #[.agg #[.int .i64 x, .int .i64 y, .int .i64 w, .int .i64 h, .slice (some ⟨b, o, none⟩) n c], .int .i64 (ch : Int), .int .i64 part] W fun e w' =>
      ((e = .returned (.tuple #[.float .f32 0, .int .i64 3]) ∧ (part < 0 ∨ 100 < part)) ∨ ((0 ≤ part ∧ part ≤ 100) ∧ ∃ Z, e = .returned (.tuple #[.float .f32 (Z.getD ((M - 1) * part.toNat / 100) 0), .int .i64 0]) ∧ St.Srt lessP Z ∧ St.Stb lessP Wd (valsL xs ch M) Z ∧ St.VL Wd Z)) ∧ Below W.heap.size W w' := by
  have hwd := valsL_wd hb ch M
  have hll := valsL_len xs ch M
  have Hval := Lib.hid (fun (u : World) (hu : Below W.heap.size W u) => scope_values x y w h b o n c M ch xs u hck hM hM2 hn hch hxs (hrd.below hu hrd.lt) hw1 hw2 hh1 hh2 hnc)
  generalize valsL xs ch M = l at *
  clear hck hM hn hxs hrd hw1 hw2 hh1 hh2 hnc hb hch
  have HW := Lib.hid (And.intro hwd hll)
  clear hwd hll
  by_cases hp : part < 0 ∨ 100 < part
  · have hp2 : (decide (part < 0) || decide (100 < part)) = true := by rw [Bool.or_eq_true, decide_eq_true_eq, decide_eq_true_eq]; exact hp
    have HP := Lib.hid hp
    by_cases h0 : part < 0
    all_goals
      clear hp
      go_enter Try.func7, Try.ntmps7
      go_wp2_with fail
      refine (Hval.out _ (bnew (Below.refl _ W))).mono ?_
      rintro e w1 ⟨g, rfl, hg, row, hb1⟩
      have B := bcall (bnew (Below.refl _ W)) hb1
      first | (have h2 : 100 < part := by rcases HP.out with h | h <;> omega) | skip
      clear hg row hb1
      go_wp2_with fail
      go_ret2
      first | exact ⟨.inl ⟨rfl, HP.out⟩, B⟩ | exact ⟨.inl rfl, B⟩
  · have p0 : 0 ≤ part := by omega
    have p1 : part ≤ 100 := by omega
    have n0 : ¬ part < 0 := by omega
    have n1 : ¬ 100 < part := by omega
    obtain ⟨q, hq1, hq2, hq3⟩ := rank_place hM1 hM2 p0 p1
    have hm1 : 0 ≤ ((M : Int) - 1) * part := Int.mul_nonneg (by omega) p0
    have hm2 : ((M : Int) - 1) * part ≤ 6553600 := by
      have : ((M : Int) - 1) * part ≤ ((M : Int) - 1) * 100 := Int.mul_le_mul_of_nonneg_left p1 (by omega)
      omega
    rw [← hq3]
    clear hp hq3
    obtain ⟨z, hz⟩ : ∃ z, z = ((M : Int) - 1) * part := ⟨_, rfl⟩
    have hz' : ((M : Int) - 1) * part = z := hz.symm
    rw [← hz] at hq2 hm1 hm2
    have HPP := Lib.hid (And.intro p0 p1)
    clear hz
    go_enter Try.func7, Try.ntmps7
    go_wp2_with fail
    refine (Hval.out _ (bnew (Below.refl _ W))).mono ?_
    rintro e w1 ⟨g, rfl, hg, row, hb1⟩
    have B := bcall (bnew (Below.refl _ W)) hb1
    have hg2 : W.heap.size ≤ g := by
      have : (W.alloc (.cells #[.int .i64 x, .int .i64 y, .int .i64 w, .int .i64 h, .slice (some ⟨b, o, none⟩) n c] 26)).heap.size = W.heap.size + 1 := by simp
      omega
    have HS := Lib.hid (sl_SortStable g M M _ lessP Wd cmpP lessP_ord (by omega) l w1 row.rowP HW.out.1)
    clear hg hb1 row Hval
    go_wp2_with fail
    refine HS.out.mono ?_
    rintro e w2 ⟨rfl, Z, row2, sZ, tZ, vZ, oth⟩
    replace B := B.trans (oth.below hg2 B.size)
    have hc := row2.cell q hq1
    have hcan : canon (Z.getD q 0) = Z.getD q 0 := by
      have hl := row2.len
      have hm : Z.getD q 0 ∈ Z := by rw [List.getD_eq_getElem?_getD, List.getElem?_eq_getElem (by omega)]; exact List.getElem_mem _
      exact (vZ _ hm).2
    have HZ := Lib.hid (And.intro sZ (And.intro tZ (And.intro vZ (And.intro hcan B))))
    have lz := row2.lt
    clear sZ tZ vZ oth HS B row2 hcan
    generalize hv : Z.getD q 0 = v at hc
    have hqi : (q : Int) < (M : Int) := by omega
    go_wp2_with fail
    refine (num_Clean _ _).mono ?_
    rintro e w3 ⟨rfl, rfl⟩
    go_wp2_with fail
    go_ret2
    refine ⟨.inr ⟨HPP.out, Z, ?_, HZ.out.1, HZ.out.2.1, HZ.out.2.2.1⟩, HZ.out.2.2.2.2⟩
    have := HZ.out.2.2.2.1
    rw [hv] at this
    rw [hv, this]
    rfl
end Go.Proofs.Ytlfcedecobebmaa
