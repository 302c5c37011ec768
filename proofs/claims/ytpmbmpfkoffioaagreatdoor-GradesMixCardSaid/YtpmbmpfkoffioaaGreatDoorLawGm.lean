/- GradesMix, walked: for any two grades and any t the law returns true. (printed by gen_lawgm.py) -/
import Derived.Test.YtpmbmpfkoffioaaGreatDoorGnW
namespace Go.Proofs.YtpmbmpfkoffioaaGreatDoor
open Go.RowKit Go.Lib

theorem canon_lt32 {b : Nat} (h : b < 4294967296) : canon b < 4294967296 := by
  unfold canon
  split
  · decide
  · exact h
theorem fop_lt32 (op : BinOp) (x y : Nat) (hop : op = .add ∨ op = .sub ∨ op = .mul ∨ op = .quo) : fop op x y < 4294967296 := by
  cases h : rd (fop op x y) with
  | number s m i => exact fop_lt op h hop
  | nan s f =>
    have e := canon_fop op x y
    rw [canon_of_nan (by rw [isNaN_iff, h]; rfl)] at e
    rw [← e]; decide
  | infinity s =>
    -- an infinity comes of a write alone
    unfold fop at h ⊢
    cases hf : floatBits op .f32 x y with
    | none => decide
    | some r =>
      refine canon_lt32 ?_
      have hw : ∀ d : Ieee.Datum, FloatKind.f32.format.write d < 4294967296 ∨ d.isNaN = true := by
        intro d
        have word_lt : ∀ (s : Bool) (r : Nat), r ≤ FloatKind.f32.format.infRung → FloatKind.f32.format.word s r < 4294967296 := by
          intro s r hr
          have hs : FloatKind.f32.format.signWeight = 2147483648 := by decide
          unfold Ieee.Format.word
          rw [hs]
          rw [f32_inf] at hr
          split <;> omega
        cases d with
        | nan s f => exact .inr rfl
        | infinity s => exact .inl (word_lt s _ (Nat.le_refl _))
        | number s m p =>
          refine .inl ?_
          show FloatKind.f32.format.nearest s m p < _
          unfold Ieee.Format.nearest
          split
          · exact word_lt s 0 (Nat.zero_le _)
          · exact word_lt s _ (Nat.min_le_right _ _)
      have : ∃ d : Ieee.Datum, d.isNaN = false ∧ r = FloatKind.f32.format.write d := by
        rcases hop with rfl | rfl | rfl | rfl
        · rw [bits_add] at hf; obtain ⟨d, h1, h2⟩ := map_some hf; exact ⟨d, Bool.eq_false_iff.2 fun h => sum_not_nan h1 (by cases d <;> simp_all [Ieee.Datum.isNaN]), h2⟩
        · rw [bits_sub] at hf; obtain ⟨d, h1, h2⟩ := map_some hf; exact ⟨d, Bool.eq_false_iff.2 fun h => sum_not_nan h1 (by cases d <;> simp_all [Ieee.Datum.isNaN]), h2⟩
        · rw [bits_mul] at hf; obtain ⟨d, h1, h2⟩ := map_some hf; exact ⟨d, Bool.eq_false_iff.2 fun h => product_not_nan h1 (by cases d <;> simp_all [Ieee.Datum.isNaN]), h2⟩
        · rw [bits_quo] at hf; obtain ⟨d, h1, h2⟩ := map_some hf; exact ⟨d, Bool.eq_false_iff.2 fun h => quotient_not_nan h1 (by cases d <;> simp_all [Ieee.Datum.isNaN]), h2⟩
      obtain ⟨d, h1, rfl⟩ := this
      rcases hw d with h2 | h2
      · exact h2
      · rw [h1] at h2; cases h2
/-- A grade's singles are words of 32 bits. -/
structure GdW (g : Gd) : Prop where
  whe : ∀ x ∈ g.whe, x < 4294967296
  lst : ∀ x ∈ g.lst, x < 4294967296
  mix : ∀ x ∈ g.mix, x < 4294967296
  piv : g.piv < 4294967296
  amt : g.amt < 4294967296
  cvs : ∀ c ∈ g.cvs, (∀ x ∈ c.xs, x < 4294967296) ∧ ∀ y ∈ c.ys, y < 4294967296
theorem getW {xs : List Nat} (h : ∀ x ∈ xs, x < 4294967296) (k : Nat) (hk : k < xs.length) : xs.getD k 0 < 4294967296 := by
  rw [List.getD_eq_getElem?_getD, List.getElem?_eq_getElem hk]
  exact h _ (List.getElem_mem hk)
theorem gdOk {g : Gd} (h : Right g) (w : GdW g) (hp : g.pts.length = 3) : GdOk g := by
  refine ⟨h.k1, h.k6, getW w.whe, getW w.lst, getW w.mix, w.piv, w.amt, fun k hk => ?_, fun c hc => ?_⟩
  · rw [List.getD_eq_getElem?_getD, List.getElem?_eq_getElem (by omega)]
    exact h.pts _ (List.getElem_mem (by omega))
  · obtain ⟨h1, h2, h3, _⟩ := h.cvs c hc
    exact ⟨h1, h2, h3, getW (w.cvs c hc).1, getW (w.cvs c hc).2⟩
theorem lerpV_lt {a b t : Nat} (ha : a < 4294967296) (hb : b < 4294967296) : lerpV a b t < 4294967296 := by
  unfold lerpV
  split
  · exact canon_lt32 ha
  · split
    · exact canon_lt32 hb
    · exact fop_lt32 _ _ _ (.inl rfl)
theorem lerpL_lt {t : Nat} {xs ys : List Nat} (hx : ∀ x ∈ xs, x < 4294967296) (hy : ∀ y ∈ ys, y < 4294967296) : ∀ z ∈ lerpL t xs ys, z < 4294967296 := fun z hz => by
  unfold lerpL at hz
  rw [List.mem_iff_getElem?] at hz
  obtain ⟨i, hi⟩ := hz
  rw [List.getElem?_zipWith] at hi
  cases h1 : xs[i]? with
  | none => rw [h1] at hi; cases hi
  | some u =>
    cases h2 : ys[i]? with
    | none => rw [h1, h2] at hi; cases hi
    | some v =>
      rw [h1, h2] at hi
      obtain rfl := Option.some.inj hi
      exact lerpV_lt (hx u (List.mem_of_getElem? h1)) (hy v (List.mem_of_getElem? h2))
theorem gdW_mix {a b : Gd} (t : Nat) (ha : GdW a) (hb : GdW b) : GdW (mixG a b t) := by
  refine ⟨lerpL_lt ha.whe hb.whe, lerpL_lt ha.lst hb.lst, lerpL_lt ha.mix hb.mix, lerpV_lt ha.piv hb.piv, lerpV_lt ha.amt hb.amt, fun c hc => ?_⟩
  have hc2 : c ∈ List.zipWith (mixCv t) a.cvs b.cvs := hc
  rw [List.mem_iff_getElem?] at hc2
  obtain ⟨i, hi⟩ := hc2
  rw [List.getElem?_zipWith] at hi
  cases h1 : a.cvs[i]? with
  | none => rw [h1] at hi; cases hi
  | some u =>
    cases h2 : b.cvs[i]? with
    | none => rw [h1, h2] at hi; cases hi
    | some v =>
      rw [h1, h2] at hi
      obtain rfl := Option.some.inj hi
      have p := ha.cvs u (List.mem_of_getElem? h1)
      have q := hb.cvs v (List.mem_of_getElem? h2)
      exact ⟨lerpL_lt p.1 q.1, lerpL_lt p.2 q.2⟩
theorem bet_zero {a b : Gd} {t : Nat} (h : betErr a b t = 0) : gradeErr a = 0 ∧ gradeErr b = 0 ∧ confB a b = false ∧ gradeErr (mixG a b t) = 0 := by
  unfold betErr at h
  by_cases h1 : gradeErr a = 0
  · rw [if_neg (by omega)] at h
    by_cases h2 : gradeErr b = 0
    · rw [if_neg (by omega)] at h
      cases h3 : confB a b with
      | true => rw [h3] at h; cases h
      | false =>
        rw [h3, if_neg (by decide)] at h
        split at h
        · cases h
        · split at h
          · cases h
          · exact ⟨h1, h2, rfl, h⟩
    · rw [if_pos h2] at h; exact absurd h h2
  · rw [if_pos h1] at h; exact absurd h h1
theorem bet_at {a b : Gd} {t : Nat} (h : betErr a b t = 0) (s : Nat) (h1 : isNum s = true) (h2 : outT s = false) (h3 : gradeErr (mixG a b s) = 0) : betErr a b s = 0 := by
  obtain ⟨a1, a2, a3, _⟩ := bet_zero h
  unfold betErr
  rw [if_neg (by omega), if_neg (by omega), a3, if_neg (by decide), if_neg (by rw [h1]; decide), h2, if_neg (by decide)]
  exact h3
theorem pair_of {w : World} {Ca Cb : Array Value} {a b : Gd} {t : Nat} (hA : GdAt w Ca a) (hB : GdAt w Cb b) (h : betErr a b t = 0) : Pair2 a b := by
  obtain ⟨a1, a2, a3, _⟩ := bet_zero h
  exact ⟨⟨hA.whe.1, hB.whe.1⟩, ⟨hA.lst.1, hB.lst.1⟩, ⟨hA.mix.1, hB.mix.1⟩, ⟨hA.pts.1, hB.pts.1⟩, ⟨hA.cvs.1, hB.cvs.1⟩, right_of a1, right_of a2, a3⟩
set_option maxRecDepth 100000 in
set_option maxHeartbeats 16000000 in
theorem law_GradesMix (Ca Cb : Array Value) (a b : Gd) (t : Nat) (W : World) (E : EnvF W) (hA : GdAt W Ca a) (hB : GdAt W Cb b) (hwa : GdW a) (hwb : GdW b) : Calls Tryz.prog 3 #[.agg Ca, .agg Cb, .float .f32 t] W fun e w' => e = .returned (.bool true) ∧ Below W.heap.size W w' := by
  have HA := Lib.hid hA
  have HB := Lib.hid hB
  have HE := Lib.hid E
  have HWA := Lib.hid hwa
  have HWB := Lib.hid hwb
  clear hA hB E hwa hwb
  go_enter Tryz.func3, Tryz.ntmps3
  go_upto_region 3 with (go_at_call 4; refine (law_landed _).mono ?_; rintro e w' ⟨rfl, rfl⟩)
  refine name_world ?_
  intro W1 hW1
  have hs0 : (W.alloc (.cells Ca 37)).heap.size = W.heap.size + 1 := Array.size_push _
  have x3 : Bx W1 W.heap.size 37 Ca := by rw [hW1]; exact (Bx.new W 37 Ca).keep (bnew (ob := .cells Cb 37) (Below.refl _ _))
  have x4 : Bx W1 (W.alloc (.cells Ca 37)).heap.size 37 Cb := by rw [hW1]; exact Bx.new (W.alloc (.cells Ca 37)) 37 Cb
  have HW1 : Hid (Below W.heap.size W W1) := Lib.hid (by rw [hW1]; exact bnew (bnew (ob := .cells Ca 37) (Below.refl _ _)))
  rw [hs0] at x4
  obtain ⟨p3, hp3⟩ : ∃ p, W.heap.size = p := ⟨_, rfl⟩
  obtain ⟨p4, hp4⟩ : ∃ p, p3 + 1 = p := ⟨_, rfl⟩
  rw [hp3] at x3 x4
  rw [hp4] at x4
  try rw [hp3]
  try rw [hp4]
  have X3 := Lib.hid x3
  have X4 := Lib.hid x4
  clear hW1 hs0 hp3 hp4 x3 x4
  have HL3 : Hid (∀ w, Below W1.heap.size W1 w → ∀ (j : Nat) (v : Value), Ca[j]? = some v → w.cell? ⟨p3, 0 + j, none⟩ = some v) := Lib.hid (fun w h j v hj => by rw [(X3.out.keep h).all.1, Nat.zero_add]; exact hj)
  have HL4 : Hid (∀ w, Below W1.heap.size W1 w → ∀ (j : Nat) (v : Value), Cb[j]? = some v → w.cell? ⟨p4, 0 + j, none⟩ = some v) := Lib.hid (fun w h j v hj => by rw [(X4.out.keep h).all.1, Nat.zero_add]; exact hj)
  have SA : Hid ((Tryz.prog.info? 37).map (·.size) = some Ca.size) := Lib.hid (by rw [HA.out.size]; exact grade_size)
  have SB : Hid ((Tryz.prog.info? 37).map (·.size) = some Cb.size) := Lib.hid (by rw [HB.out.size]; exact grade_size)
  obtain ⟨EE, hEE⟩ : ∃ EE, betErr a b t = EE := ⟨_, rfl⟩
  have HEE := Lib.hid hEE
  clear hEE
  go_wp2_with (first | refine wpList_load_cells rfl 37 (.tmp 3) rfl p3 0 rfl Ca (HL3.out _ (Below.refl _ _)) _ Tryz.underlying37 rfl SA.out ?_ | refine wpList_load_cells rfl 37 (.tmp 4) rfl p4 0 rfl Cb (HL4.out _ (Below.refl _ _)) _ Tryz.underlying37 rfl SB.out ?_)
  refine (grade_Between Ca Cb a b t W1 (HA.out.keep (HW1.out.trans ((Below.refl _ _).mono HW1.out.size))) (HB.out.keep (HW1.out.trans ((Below.refl _ _).mono HW1.out.size)))).mono ?_
  intro e w2 h
  obtain ⟨R1, rfl, hs, ho, hg, hz, hb⟩ := h
  have HR1 : Hid (R1.size = 49 ∧ R1.all (·.oneCell') = true ∧ (betErr a b t = 0 → GdAt w2 R1 (mixG a b t)) ∧ (betErr a b t ≠ 0 → R1[0]? = some (.int .i64 0)) ∧ Below (W1).heap.size W1 w2) := Lib.hid ⟨hs, ho, hg, hz, hb⟩
  have hst := fun w => grade_store w hs ho
  have hcs := hs
  clear hs ho hg hz hb
  rw [HEE.out]
  go_upto_region 4 with fail
  clear hst hcs
  refine name_world ?_
  intro V1 hV
  have X7 : Hid (Bx V1 w2.heap.size 37 R1) := Lib.hid (by rw [hV]; exact Bx.new w2 _ R1)
  have Hb2 : Hid (Below w2.heap.size w2 V1) := Lib.hid (by rw [hV]; exact bnew (ob := .cells R1 37) (Below.refl _ _))
  have HBV1 : Hid (Below W1.heap.size W1 V1) := Lib.hid (bcall (bcall (Below.refl _ _) HR1.out.2.2.2.2) Hb2.out)
  have HKV1 : Hid (Below (W1).heap.size W1 V1) := Lib.hid (bcall HR1.out.2.2.2.2 Hb2.out)
  obtain ⟨p7, hp⟩ : ∃ p, w2.heap.size = p := ⟨_, rfl⟩
  rw [hp] at X7 ⊢
  clear hV hp
  go_wp2_with (first | refine wpList_load_cells rfl 37 (.tmp 3) rfl p3 0 rfl Ca (HL3.out _ (HBV1.out)) _ Tryz.underlying37 rfl SA.out ?_ | refine wpList_load_cells rfl 37 (.tmp 4) rfl p4 0 rfl Cb (HL4.out _ (HBV1.out)) _ Tryz.underlying37 rfl SB.out ?_)
  refine (ref_Between Ca Cb a b t V1 (HA.out.keep (HW1.out.trans ((HBV1.out).mono HW1.out.size))) (HB.out.keep (HW1.out.trans ((HBV1.out).mono HW1.out.size)))).mono ?_
  intro e w4 h
  obtain ⟨R2, rfl, hs, ho, hg, hz, hb⟩ := h
  have HR2 : Hid (R2.size = 49 ∧ R2.all (·.oneCell') = true ∧ (betErr a b t = 0 → GdAt w4 R2 (mixG a b t)) ∧ (betErr a b t ≠ 0 → R2[0]? = some (.int .i64 0)) ∧ Below (V1).heap.size V1 w4) := Lib.hid ⟨hs, ho, hg, hz, hb⟩
  have hst := fun w => grade_store w hs ho
  have hcs := hs
  clear hs ho hg hz hb
  rw [HEE.out]
  go_upto_region 5 with fail
  clear hst hcs
  refine name_world ?_
  intro V2 hV
  have X9 : Hid (Bx V2 w4.heap.size 37 R2) := Lib.hid (by rw [hV]; exact Bx.new w4 _ R2)
  have Hb4 : Hid (Below w4.heap.size w4 V2) := Lib.hid (by rw [hV]; exact bnew (ob := .cells R2 37) (Below.refl _ _))
  have HBV2 : Hid (Below W1.heap.size W1 V2) := Lib.hid (bcall (bcall (HBV1.out) HR2.out.2.2.2.2) Hb4.out)
  have HKV2 : Hid (Below (V1).heap.size V1 V2) := Lib.hid (bcall HR2.out.2.2.2.2 Hb4.out)
  obtain ⟨p9, hp⟩ : ∃ p, w4.heap.size = p := ⟨_, rfl⟩
  rw [hp] at X9 ⊢
  clear hV hp
  by_cases e0 : EE = 0
  · subst e0
    have hz := HEE.out
    have HG1 : Hid (GdAt V2 R1 (mixG a b t)) := Lib.hid (((HR1.out.2.2.1 hz).keep Hb2.out).keep HKV2.out)
    have HG2 : Hid (GdAt V2 R2 (mixG a b t)) := Lib.hid ((HR2.out.2.2.1 hz).keep Hb4.out)
    have HP2 : Hid (Pair2 a b) := Lib.hid (pair_of HA.out HB.out hz)
    have HOM : Hid (GdOk (mixG a b t)) := Lib.hid (gdOk (right_of (bet_zero hz).2.2.2) (gdW_mix t HWA.out HWB.out) HG1.out.pts.1)
    have HOA : Hid (GdOk a) := Lib.hid (gdOk HP2.out.ra HWA.out HA.out.pts.1)
    have HOB : Hid (GdOk b) := Lib.hid (gdOk HP2.out.rb HWB.out HB.out.pts.1)
    have HZ0 : Hid (betErr a b 0 = 0) := Lib.hid (bet_at hz 0 (by decide +kernel) (by decide +kernel) (by rw [mix_0 HP2.out]; exact (bet_zero hz).1))
    have HZ1 : Hid (betErr a b 1065353216 = 0) := Lib.hid (bet_at hz 1065353216 (by decide +kernel) (by decide +kernel) (by rw [mix_1 HP2.out]; exact (bet_zero hz).2.1))
    have SR1 : Hid ((Tryz.prog.info? 37).map (·.size) = some R1.size) := Lib.hid (by rw [HR1.out.1]; exact grade_size)
    have SR2 : Hid ((Tryz.prog.info? 37).map (·.size) = some R2.size) := Lib.hid (by rw [HR2.out.1]; exact grade_size)
    have HL7 : Hid (∀ (j : Nat) (v : Value), R1[j]? = some v → V2.cell? ⟨p7, 0 + j, none⟩ = some v) := Lib.hid (fun j v hj => by rw [(X7.out.keep HKV2.out).all.1, Nat.zero_add]; exact hj)
    have HL9 : Hid (∀ (j : Nat) (v : Value), R2[j]? = some v → V2.cell? ⟨p9, 0 + j, none⟩ = some v) := Lib.hid (fun j v hj => by rw [X9.out.all.1, Nat.zero_add]; exact hj)
    clear hz
    go_wp2_with (first | refine wpList_load_cells_g rfl 37 (.tmp 7) rfl p7 0 rfl R1 HL7.out _ Tryz.underlying37 rfl SR1.out ?_ | refine wpList_load_cells_g rfl 37 (.tmp 9) rfl p9 0 rfl R2 HL9.out _ Tryz.underlying37 rfl SR2.out ?_)
    refine (ref_SameGrade R1 R2 (mixG a b t) (mixG a b t) V2 (HE.out.below (HW1.out.trans ((HBV2.out).mono HW1.out.size))) HG1.out HG2.out HOM.out HOM.out).mono ?_
    rintro e w5 ⟨rfl, hb⟩
    rw [sameG_refl]
    have HB5 : Hid (Below W1.heap.size W1 w5) := Lib.hid (bcall (HBV2.out) hb)
    have HK5 : Hid (Below (V2).heap.size V2 w5) := Lib.hid hb
    clear hb
    go_wp2_with (first | refine wpList_load_cells rfl 37 (.tmp 3) rfl p3 0 rfl Ca (HL3.out _ (HB5.out)) _ Tryz.underlying37 rfl SA.out ?_ | refine wpList_load_cells rfl 37 (.tmp 4) rfl p4 0 rfl Cb (HL4.out _ (HB5.out)) _ Tryz.underlying37 rfl SB.out ?_)
    refine (grade_Between Ca Cb a b 0 w5 (HA.out.keep (HW1.out.trans ((HB5.out).mono HW1.out.size))) (HB.out.keep (HW1.out.trans ((HB5.out).mono HW1.out.size)))).mono ?_
    intro e w6 h
    obtain ⟨R3, rfl, hs, ho, hg, hz, hb⟩ := h
    have HR3 : Hid (R3.size = 49 ∧ R3.all (·.oneCell') = true ∧ (betErr a b 0 = 0 → GdAt w6 R3 (mixG a b 0)) ∧ (betErr a b 0 ≠ 0 → R3[0]? = some (.int .i64 0)) ∧ Below (w5).heap.size w5 w6) := Lib.hid ⟨hs, ho, hg, hz, hb⟩
    have hst := fun w => grade_store w hs ho
    have hcs := hs
    clear hs ho hg hz hb
    rw [HZ0.out]
    go_upto_region 10 with fail
    clear hst hcs
    refine name_world ?_
    intro V3 hV
    have X11 : Hid (Bx V3 w6.heap.size 37 R3) := Lib.hid (by rw [hV]; exact Bx.new w6 _ R3)
    have Hb6 : Hid (Below w6.heap.size w6 V3) := Lib.hid (by rw [hV]; exact bnew (ob := .cells R3 37) (Below.refl _ _))
    have HBV3 : Hid (Below W1.heap.size W1 V3) := Lib.hid (bcall (bcall (HB5.out) HR3.out.2.2.2.2) Hb6.out)
    have HKV3 : Hid (Below (w5).heap.size w5 V3) := Lib.hid (bcall HR3.out.2.2.2.2 Hb6.out)
    obtain ⟨p11, hp⟩ : ∃ p, w6.heap.size = p := ⟨_, rfl⟩
    rw [hp] at X11 ⊢
    clear hV hp
    go_wp2_with (first | refine wpList_load_cells rfl 37 (.tmp 3) rfl p3 0 rfl Ca (HL3.out _ (HBV3.out)) _ Tryz.underlying37 rfl SA.out ?_ | refine wpList_load_cells rfl 37 (.tmp 4) rfl p4 0 rfl Cb (HL4.out _ (HBV3.out)) _ Tryz.underlying37 rfl SB.out ?_)
    refine (grade_Between Ca Cb a b 1065353216 V3 (HA.out.keep (HW1.out.trans ((HBV3.out).mono HW1.out.size))) (HB.out.keep (HW1.out.trans ((HBV3.out).mono HW1.out.size)))).mono ?_
    intro e w8 h
    obtain ⟨R4, rfl, hs, ho, hg, hz, hb⟩ := h
    have HR4 : Hid (R4.size = 49 ∧ R4.all (·.oneCell') = true ∧ (betErr a b 1065353216 = 0 → GdAt w8 R4 (mixG a b 1065353216)) ∧ (betErr a b 1065353216 ≠ 0 → R4[0]? = some (.int .i64 0)) ∧ Below (V3).heap.size V3 w8) := Lib.hid ⟨hs, ho, hg, hz, hb⟩
    have hst := fun w => grade_store w hs ho
    have hcs := hs
    clear hs ho hg hz hb
    rw [HZ1.out]
    go_upto_region 11 with fail
    clear hst hcs
    refine name_world ?_
    intro V4 hV
    have X12 : Hid (Bx V4 w8.heap.size 37 R4) := Lib.hid (by rw [hV]; exact Bx.new w8 _ R4)
    have Hb8 : Hid (Below w8.heap.size w8 V4) := Lib.hid (by rw [hV]; exact bnew (ob := .cells R4 37) (Below.refl _ _))
    have HBV4 : Hid (Below W1.heap.size W1 V4) := Lib.hid (bcall (bcall (HBV3.out) HR4.out.2.2.2.2) Hb8.out)
    have HKV4 : Hid (Below (V3).heap.size V3 V4) := Lib.hid (bcall HR4.out.2.2.2.2 Hb8.out)
    obtain ⟨p12, hp⟩ : ∃ p, w8.heap.size = p := ⟨_, rfl⟩
    rw [hp] at X12 ⊢
    clear hV hp
    have HG3 : Hid (GdAt V4 R3 a) := Lib.hid (by have h := ((HR3.out.2.2.1 HZ0.out).keep Hb6.out).keep HKV4.out; rw [mix_0 HP2.out] at h; exact h)
    have HG4 : Hid (GdAt V4 R4 b) := Lib.hid (by have h := (HR4.out.2.2.1 HZ1.out).keep Hb8.out; rw [mix_1 HP2.out] at h; exact h)
    have SR3 : Hid ((Tryz.prog.info? 37).map (·.size) = some R3.size) := Lib.hid (by rw [HR3.out.1]; exact grade_size)
    have SR4 : Hid ((Tryz.prog.info? 37).map (·.size) = some R4.size) := Lib.hid (by rw [HR4.out.1]; exact grade_size)
    have HL11 : Hid (∀ w, Below V4.heap.size V4 w → ∀ (j : Nat) (v : Value), R3[j]? = some v → w.cell? ⟨p11, 0 + j, none⟩ = some v) := Lib.hid (fun w h j v hj => by rw [((X11.out.keep HKV4.out).keep h).all.1, Nat.zero_add]; exact hj)
    have HL12 : Hid (∀ w, Below V4.heap.size V4 w → ∀ (j : Nat) (v : Value), R4[j]? = some v → w.cell? ⟨p12, 0 + j, none⟩ = some v) := Lib.hid (fun w h j v hj => by rw [(X12.out.keep h).all.1, Nat.zero_add]; exact hj)
    go_wp2_with (first | refine wpList_load_cells_g rfl 37 (.tmp 11) rfl p11 0 rfl R3 (HL11.out _ (Below.refl _ _)) _ Tryz.underlying37 rfl SR3.out ?_ | refine wpList_load_cells_g rfl 37 (.tmp 3) rfl p3 0 rfl Ca (HL3.out _ HBV4.out) _ Tryz.underlying37 rfl SA.out ?_)
    refine (ref_SameGrade R3 Ca a a V4 (HE.out.below (HW1.out.trans ((HBV4.out).mono HW1.out.size))) HG3.out (HA.out.keep (HW1.out.trans (HBV4.out.mono HW1.out.size))) HOA.out HOA.out).mono ?_
    rintro e w9 ⟨rfl, hb⟩
    rw [sameG_refl]
    have HB9 : Hid (Below W1.heap.size W1 w9) := Lib.hid (bcall (HBV4.out) hb)
    have HK9 : Hid (Below (V4).heap.size V4 w9) := Lib.hid hb
    clear hb
    go_wp2_with (first | refine wpList_load_cells_g rfl 37 (.tmp 12) rfl p12 0 rfl R4 (HL12.out _ HK9.out) _ Tryz.underlying37 rfl SR4.out ?_ | refine wpList_load_cells_g rfl 37 (.tmp 4) rfl p4 0 rfl Cb (HL4.out _ HB9.out) _ Tryz.underlying37 rfl SB.out ?_)
    refine (ref_SameGrade R4 Cb b b w9 (HE.out.below (HW1.out.trans ((HB9.out).mono HW1.out.size))) (HG4.out.keep HK9.out) (HB.out.keep (HW1.out.trans (HB9.out.mono HW1.out.size))) HOB.out HOB.out).mono ?_
    rintro e w10 ⟨rfl, hb⟩
    rw [sameG_refl]
    have HB10 : Hid (Below W1.heap.size W1 w10) := Lib.hid (bcall (HB9.out) hb)
    have HK10 : Hid (Below (w9).heap.size w9 w10) := Lib.hid hb
    clear hb
    go_wp2_with fail
    go_ret
    exact ⟨rfl, HW1.out.trans (HB10.out.mono HW1.out.size)⟩
  · have hne : (EE == 0) = false := by simpa using e0
    have hne2 : (EE != 0) = true := by simpa using e0
    have r7 : V2.cell? ⟨p7, 0, none⟩ = some (.int .i64 0) := by rw [(X7.out.keep HKV2.out).all.1]; exact HR1.out.2.2.2.1 (by rw [HEE.out]; exact e0)
    go_wp2_with fail
    go_ret
    exact ⟨rfl, HW1.out.trans (HBV2.out.mono HW1.out.size)⟩
end Go.Proofs.YtpmbmpfkoffioaaGreatDoor
