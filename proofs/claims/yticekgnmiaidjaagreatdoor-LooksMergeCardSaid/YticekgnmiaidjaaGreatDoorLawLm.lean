/- LooksMerge, walked: for any three looks the law returns true. (printed by gen_lawlm.py) -/
import Derived.Test.YticekgnmiaidjaaGreatDoorLkS
import Derived.Test.YticekgnmiaidjaaGreatDoorLkU
namespace Go.Proofs.YticekgnmiaidjaaGreatDoor

section
open Go.RowKit Go.Lib

theorem own_lit {B : Nat} {w : World} {v : Value} {S : List ByteArray} (h : OwnS B w v S) : ∃ a c, v = .slice a S.length c := by
  rcases h.form with ⟨h0, h1⟩ | ⟨g, c, h1, _⟩
  · exact ⟨none, 0, by rw [h1, h0]; rfl⟩
  · exact ⟨_, c, h1⟩
theorem merge_two {W w' : World} {out : List Rw} {cf : List ByteArray} {e : Ending} (h : MergeIs W w' 0 out cf e) :
    (500 < out.length ∧ e = .returned (.tuple #[.agg #[.slice none 0 0], .slice none 0 0, .int .i64 4])) ∨
    (out.length ≤ 500 ∧ ∃ a n c a' n' c', n' = cf.length ∧ e = .returned (.tuple #[.agg #[.slice a n c], .slice a' n' c', .int .i64 0]) ∧ SlL w' (.slice a n c) out ∧ OwnS W.heap.size w' (.slice a' n' c') cf) := by
  have e0 : mErr 0 out = if 500 < out.length then 4 else 0 := by unfold mErr; rw [if_neg (by simp)]
  unfold MergeIs at h
  rw [e0] at h
  by_cases h5 : 500 < out.length
  · rw [if_pos h5] at h
    rcases h with ⟨_, h⟩ | ⟨h, _⟩
    · exact .inl ⟨h5, h⟩
    · cases h
  · rw [if_neg h5] at h
    rcases h with ⟨h, _⟩ | ⟨_, v, cv, h1, h2, h3⟩
    · exact absurd rfl h
    · obtain ⟨a, c, hv, _⟩ := id h2
      obtain ⟨a', c', hcv⟩ := own_lit h3
      subst hv; subst hcv
      exact .inr ⟨by omega, a, _, c, a', _, c', rfl, h1, h2, h3⟩
theorem merge_err {W w' : World} {er : Int} {out : List Rw} {cf : List ByteArray} {e : Ending} (h : MergeIs W w' er out cf e) (he : er ≠ 0) : e = .returned (.tuple #[.agg #[.slice none 0 0], .slice none 0 0, .int .i64 er]) := by
  have e0 : mErr er out = er := by unfold mErr; rw [if_pos he]
  unfold MergeIs at h
  rw [e0] at h
  rcases h with ⟨_, h⟩ | ⟨h, _⟩
  · exact h
  · exact absurd h he
theorem pick_right {o t u : List Rw} (ht : LookR t) (hu : LookR u) {s : ByteArray} {gs : List Gd} (h : pickP (getR o s) (getR t s) (getR u s) = some gs) : RightL gs := by
  unfold pickP at h
  split at h
  · exact hu.right _ _ h
  · exact ht.right _ _ h
theorem pickR_right {o t u : List Rw} (ht : LookR t) (hu : LookR u) {s : ByteArray} {gs : List Gd} (h : pickR (getR o s) (getR t s) (getR u s) = some gs) : RightL gs := by
  unfold pickR at h
  split at h
  · exact ht.right _ _ h
  · split at h
    · exact hu.right _ _ h
    · exact ht.right _ _ h
theorem outP_right {o t u : List Rw} (ht : LookR t) (hu : LookR u) : ∀ r ∈ outP o t u, RightL r.2 := fun _ hr => pick_right ht hu (rowsOf_at _ hr).2
theorem outR_right {o t u : List Rw} (ht : LookR t) (hu : LookR u) : ∀ r ∈ outR o t u, RightL r.2 := fun _ hr => pickR_right ht hu (rowsOf_at _ hr).2
theorem outPR_len (o t u : List Rw) : (outP o t u).length = (outR o t u).length := sameL_len (out_same o t u)
theorem sl_nil (w : World) : SlL w (.slice none 0 0) [] := ⟨none, 0, rfl, Nat.zero_le _, Nat.zero_le _, .inl rfl⟩
theorem own_nilS (B : Nat) (w : World) : OwnS B w (.slice none 0 0) [] := World.ownsRow_nil _ _ _ _
theorem equal_texts (B1 B2 : Nat) (v1 v2 : Value) (S T : List ByteArray) (W : World) (h1 : OwnS B1 W v1 S) (h2 : OwnS B2 W v2 T) (hl : S.length ≤ 100000) (hST : S = T) :
    Calls Tryz.prog 21 #[v1, v2] W fun e w' => e = .returned (.bool true) ∧ Below W.heap.size W w' := by
  subst hST
  rcases h1.form with ⟨h0, e1⟩ | ⟨g1, c1, e1, _, _, _, hc1⟩
  · obtain ⟨a2, c2, e2⟩ := own_lit h2
    rw [e1, e2, h0]
    refine (Tryz.slices_Equal_string_empty none a2 0 0 c2 W (by omega)).mono ?_
    rintro e w' ⟨rfl, rfl⟩
    exact ⟨rfl, Below.refl _ _⟩
  · rcases h2.form with ⟨h0, e2⟩ | ⟨g2, c2, e2, _, _, _, hc2⟩
    · rw [e1, e2, h0]
      refine (Tryz.slices_Equal_string_empty _ none c1 0 0 W (by omega)).mono ?_
      rintro e w' ⟨rfl, rfl⟩
      exact ⟨rfl, Below.refl _ _⟩
    · rw [e1, e2]
      refine (Tryz.slices_Equal_string g1 0 S.length c1 g2 0 S.length c2 S S W (Nat.le_refl _) (Nat.le_refl _) (by omega) (by omega) (fun j hj => ?_) (fun j hj => ?_)).mono ?_
      · rw [Nat.zero_add, hc1 j hj]
        simp [List.getD_eq_getElem?_getD, hj]
      · rw [Nat.zero_add, hc2 j hj]
        simp [List.getD_eq_getElem?_getD, hj]
      · rintro e w' ⟨rfl, q, rfl⟩
        exact ⟨by simp, below_drewN (Below.refl _ _) _⟩
theorem box3 (W : World) (T : TypeId) (a b c : Array Value) : Bx (((W.alloc (.cells a T)).alloc (.cells b T)).alloc (.cells c T)) W.heap.size T a ∧ Bx (((W.alloc (.cells a T)).alloc (.cells b T)).alloc (.cells c T)) (W.heap.size + 1) T b ∧
    Bx (((W.alloc (.cells a T)).alloc (.cells b T)).alloc (.cells c T)) (W.heap.size + 1 + 1) T c ∧ Below W.heap.size W (((W.alloc (.cells a T)).alloc (.cells b T)).alloc (.cells c T)) := by
  refine ⟨((Bx.new _ _ _).alloc _).alloc _, ?_, ?_, bnew (bnew (bnew (Below.refl _ _)))⟩
  · rw [← szA W (.cells a T)]; exact (Bx.new _ _ _).alloc _
  · rw [← szA W (.cells a T), ← szA _ (.cells b T)]; exact Bx.new _ _ _
theorem confs_len {o t u : List Rw} (ho : LookR o) (ht : LookR t) (hu : LookR u) : (confs o t u).length ≤ 1500 := Nat.le_trans (List.length_filter_le _ _) (names_len ho ht hu)
end

section
open Go.RowKit Go.Lib

set_option maxRecDepth 100000 in
set_option maxHeartbeats 16000000 in
theorem law_LooksMerge (vo vt vu : Value) (o t u : List Rw) (W : World) (E : EnvF W) (ho : SlL W vo o) (ht : SlL W vt t) (hu : SlL W vu u) (wo : ∀ r ∈ o, ∀ g ∈ r.2, GdW g) (wt : ∀ r ∈ t, ∀ g ∈ r.2, GdW g) (wu : ∀ r ∈ u, ∀ g ∈ r.2, GdW g) :
    Calls Tryz.prog 4 #[.agg #[vo], .agg #[vt], .agg #[vu]] W fun e w' => e = .returned (.bool true) ∧ Below W.heap.size W w' := by
  have HS := Lib.hid (And.intro ho (And.intro ht hu))
  have HE := Lib.hid E
  have HWD := Lib.hid (And.intro wo (And.intro wt wu))
  obtain ⟨a1, c1, rfl, _⟩ := ho
  obtain ⟨a2, c2, rfl, _⟩ := ht
  obtain ⟨a3, c3, rfl, _⟩ := hu
  obtain ⟨n1, hn1⟩ : ∃ n, o.length = n := ⟨_, rfl⟩
  obtain ⟨n2, hn2⟩ : ∃ n, t.length = n := ⟨_, rfl⟩
  obtain ⟨n3, hn3⟩ : ∃ n, u.length = n := ⟨_, rfl⟩
  rw [hn1, hn2, hn3] at HS ⊢
  clear hn1 hn2 hn3 E wo wt wu
  go_enter Tryz.func4, Tryz.ntmps4
  go_upto_region 1 with fail
  refine name_world ?_
  intro W1 hW1
  have HX := box3 W 57 #[.slice a1 n1 c1] #[.slice a2 n2 c2] #[.slice a3 n3 c3]
  rw [← hW1] at HX
  repeat rw [szA]
  obtain ⟨p3, hp3⟩ : ∃ p, W.heap.size = p := ⟨_, rfl⟩
  obtain ⟨p4, hp4⟩ : ∃ p, p3 + 1 = p := ⟨_, rfl⟩
  obtain ⟨p5, hp5⟩ : ∃ p, p4 + 1 = p := ⟨_, rfl⟩
  have HB_W1 := Lib.hid HX.2.2.2
  have X3_W1 := Lib.hid HX.1
  have X4_W1 := Lib.hid HX.2.1
  have X5_W1 := Lib.hid HX.2.2.1
  rw [hp3] at X3_W1
  rw [hp3, hp4] at X4_W1
  rw [hp3, hp4, hp5] at X5_W1
  try rw [hp3]
  try rw [hp4]
  try rw [hp5]
  clear hW1 hp3 hp4 hp5 HX
  go_upto_region 3 with (go_at_call 7; refine (law_landed _).mono ?_; rintro e w' ⟨rfl, rfl⟩)
  have q3 := X3_W1.out.all.1 0
  have q4 := X4_W1.out.all.1 0
  have q5 := X5_W1.out.all.1 0
  simp only [List.getElem?_toArray, List.getElem?_cons_zero] at q3 q4 q5
  go_wp2_with fail
  refine name_world ?_
  intro wb hwb
  have X27_wb : Hid (Bx wb W1.heap.size 57 #[.slice a1 n1 c1, .slice a2 n2 c2, .slice a3 n3 c3]) := Lib.hid (by rw [hwb]; exact Bx.new _ _ _)
  have hb : Below W1.heap.size W1 wb := by rw [hwb]; exact bnew (Below.refl _ _)
  obtain ⟨g27, hg27⟩ : ∃ g, W1.heap.size = g := ⟨_, rfl⟩
  have HB_wb : Hid (Below W.heap.size W wb) := Lib.hid (bcall HB_W1.out hb)
  have X3_wb := Lib.hid (X3_W1.out.keep hb)
  have X4_wb := Lib.hid (X4_W1.out.keep hb)
  have X5_wb := Lib.hid (X5_W1.out.keep hb)
  rw [hg27] at X27_wb
  try rw [hg27]
  clear hwb hb hg27 q3 q4 q5
  go_loopw [29] (fun i wr => ∃ k : Nat, k ≤ 3 ∧ i = .int .i64 (k : Int) ∧ Hid (Below wb.heap.size wb wr ∧ ∀ j, j < k → lookErr ([o, t, u].getD j []) = 0)) (fun i _ => 3 - (RowKit.intOf i).toNat)
  case atStart => exact ⟨0, Nat.zero_le _, rfl, Lib.hid ⟨Below.refl _ _, fun j hj => absurd hj (Nat.not_lt_zero _)⟩⟩
  case round =>
    obtain ⟨k, hk, rfl, HI⟩ := hrel
    rcases (by omega : k = 0 ∨ k = 1 ∨ k = 2 ∨ k = 3) with rfl | rfl | rfl | rfl
    · rw [show ((0 : Nat) : Int) = 0 from rfl]
      have HB_wr : Hid (Below W.heap.size W wr) := Lib.hid (HB_wb.out.trans (HI.out.1.mono HB_wb.out.size))
      have X3_wr := Lib.hid (X3_wb.out.keep HI.out.1)
      have X4_wr := Lib.hid (X4_wb.out.keep HI.out.1)
      have X5_wr := Lib.hid (X5_wb.out.keep HI.out.1)
      have c0 : wr.cell? ⟨g27, 0, none⟩ = some (.slice a1 n1 c1) := (X27_wb.out.keep HI.out.1).all.1 0
      go_upto_region 6 with fail
      clear c0
      refine name_world ?_
      intro w8 hw8
      have X8_w8 : Hid (Bx w8 wr.heap.size 57 #[(.slice a1 n1 c1)]) := Lib.hid (by rw [hw8]; exact Bx.new _ _ _)
      have hbw8 : Below wr.heap.size wr w8 := by rw [hw8]; exact bnew (Below.refl _ _)
      have HB_w8 : Hid (Below W.heap.size W w8) := Lib.hid (bcall HB_wr.out hbw8)
      have X3_w8 := Lib.hid (X3_wr.out.keep hbw8)
      have X4_w8 := Lib.hid (X4_wr.out.keep hbw8)
      have X5_w8 := Lib.hid (X5_wr.out.keep hbw8)
      obtain ⟨p8, hp8⟩ : ∃ p, wr.heap.size = p := ⟨_, rfl⟩
      rw [hp8] at X8_w8 ⊢
      have HB8i := Lib.hid hbw8
      clear hw8 hbw8 hp8
      have q8 := X8_w8.out.all.1 0
      simp only [List.getElem?_toArray, List.getElem?_cons_zero] at q8
      go_wp2_with fail
      clear q8
      refine (ref_LookError _ o _ (HS.out.1.keep HB_w8.out)).mono ?_
      rintro e w9 ⟨rfl, hb⟩
      have HI9 : Hid (Below wb.heap.size wb w9) := Lib.hid (HI.out.1.trans ((HB8i.out.trans (hb.mono HB8i.out.size)).mono HI.out.1.size))
      have HB_w9 : Hid (Below W.heap.size W w9) := Lib.hid (bcall HB_w8.out hb)
      have X3_w9 := Lib.hid (X3_w8.out.keep hb)
      have X4_w9 := Lib.hid (X4_w8.out.keep hb)
      have X5_w9 := Lib.hid (X5_w8.out.keep hb)
      have X8_w9 := Lib.hid (X8_w8.out.keep hb)
      clear hb
      obtain ⟨er, her⟩ : ∃ x, lookErr o = x := ⟨_, rfl⟩
      have HER := Lib.hid her
      rw [her]
      clear her
      by_cases h0 : er = 0
      · subst h0
        go_wp2_with fail
        go_roundw
        case rel => exact ⟨0 + 1, by omega, by go_num, Lib.hid ⟨HI9.out, fun j hj => by
          rcases (by omega : j = 0) with rfl
          · exact HER.out⟩⟩
        case measure => simp [RowKit.intOf]
      · have hne : (er == 0) = false := beq_eq_false_iff_ne.2 h0
        have H3 : Hid (err3 o t u = er ∧ er ≠ 0) := Lib.hid ⟨by
          unfold err3
          rw [firstNZ, if_neg (by rw [HER.out]; exact h0)]
          exact HER.out, h0⟩
        have q3 := X3_w9.out.all.1 0
        have q4 := X4_w9.out.all.1 0
        have q5 := X5_w9.out.all.1 0
        simp only [List.getElem?_toArray, List.getElem?_cons_zero] at q3 q4 q5
        clear h0
        go_wp2_with fail
        clear q3 q4 q5
        refine (conform_Merge _ _ _ o t u _ (HE.out.below HB_w9.out) (HS.out.1.keep HB_w9.out) (HS.out.2.1.keep HB_w9.out) (HS.out.2.2.keep HB_w9.out) HWD.out.1 HWD.out.2.1 HWD.out.2.2).mono ?_
        rintro e wA ⟨hM, hb⟩
        rw [H3.out.1] at hM
        obtain rfl := merge_err hM H3.out.2
        have HB_wA : Hid (Below W.heap.size W wA) := Lib.hid (bcall HB_w9.out hb)
        have X3_wA := Lib.hid (X3_w9.out.keep hb)
        have X4_wA := Lib.hid (X4_w9.out.keep hb)
        have X5_wA := Lib.hid (X5_w9.out.keep hb)
        have X8_wA := Lib.hid (X8_w9.out.keep hb)
        clear hM hb hne
        have hee : (er == er) = true := beq_self_eq_true _
        go_wp2_with fail
        go_ret
        exact ⟨rfl, bnew HB_wA.out⟩
    · rw [show ((1 : Nat) : Int) = 1 from rfl]
      have HB_wr : Hid (Below W.heap.size W wr) := Lib.hid (HB_wb.out.trans (HI.out.1.mono HB_wb.out.size))
      have X3_wr := Lib.hid (X3_wb.out.keep HI.out.1)
      have X4_wr := Lib.hid (X4_wb.out.keep HI.out.1)
      have X5_wr := Lib.hid (X5_wb.out.keep HI.out.1)
      have c0 : wr.cell? ⟨g27, 1, none⟩ = some (.slice a2 n2 c2) := (X27_wb.out.keep HI.out.1).all.1 1
      go_upto_region 6 with fail
      clear c0
      refine name_world ?_
      intro w8 hw8
      have X8_w8 : Hid (Bx w8 wr.heap.size 57 #[(.slice a2 n2 c2)]) := Lib.hid (by rw [hw8]; exact Bx.new _ _ _)
      have hbw8 : Below wr.heap.size wr w8 := by rw [hw8]; exact bnew (Below.refl _ _)
      have HB_w8 : Hid (Below W.heap.size W w8) := Lib.hid (bcall HB_wr.out hbw8)
      have X3_w8 := Lib.hid (X3_wr.out.keep hbw8)
      have X4_w8 := Lib.hid (X4_wr.out.keep hbw8)
      have X5_w8 := Lib.hid (X5_wr.out.keep hbw8)
      obtain ⟨p8, hp8⟩ : ∃ p, wr.heap.size = p := ⟨_, rfl⟩
      rw [hp8] at X8_w8 ⊢
      have HB8i := Lib.hid hbw8
      clear hw8 hbw8 hp8
      have q8 := X8_w8.out.all.1 0
      simp only [List.getElem?_toArray, List.getElem?_cons_zero] at q8
      go_wp2_with fail
      clear q8
      refine (ref_LookError _ t _ (HS.out.2.1.keep HB_w8.out)).mono ?_
      rintro e w9 ⟨rfl, hb⟩
      have HI9 : Hid (Below wb.heap.size wb w9) := Lib.hid (HI.out.1.trans ((HB8i.out.trans (hb.mono HB8i.out.size)).mono HI.out.1.size))
      have HB_w9 : Hid (Below W.heap.size W w9) := Lib.hid (bcall HB_w8.out hb)
      have X3_w9 := Lib.hid (X3_w8.out.keep hb)
      have X4_w9 := Lib.hid (X4_w8.out.keep hb)
      have X5_w9 := Lib.hid (X5_w8.out.keep hb)
      have X8_w9 := Lib.hid (X8_w8.out.keep hb)
      clear hb
      obtain ⟨er, her⟩ : ∃ x, lookErr t = x := ⟨_, rfl⟩
      have HER := Lib.hid her
      rw [her]
      clear her
      by_cases h0 : er = 0
      · subst h0
        go_wp2_with fail
        go_roundw
        case rel => exact ⟨1 + 1, by omega, by go_num, Lib.hid ⟨HI9.out, fun j hj => by
          rcases (by omega : j = 0 ∨ j = 1) with rfl | rfl
          · exact HI.out.2 0 (by omega)
          · exact HER.out⟩⟩
        case measure => simp [RowKit.intOf]
      · have hne : (er == 0) = false := beq_eq_false_iff_ne.2 h0
        have H3 : Hid (err3 o t u = er ∧ er ≠ 0) := Lib.hid ⟨by
          unfold err3
          rw [firstNZ, if_pos (show lookErr o = 0 from HI.out.2 0 (by omega))]
          rw [firstNZ, if_neg (by rw [HER.out]; exact h0)]
          exact HER.out, h0⟩
        have q3 := X3_w9.out.all.1 0
        have q4 := X4_w9.out.all.1 0
        have q5 := X5_w9.out.all.1 0
        simp only [List.getElem?_toArray, List.getElem?_cons_zero] at q3 q4 q5
        clear h0
        go_wp2_with fail
        clear q3 q4 q5
        refine (conform_Merge _ _ _ o t u _ (HE.out.below HB_w9.out) (HS.out.1.keep HB_w9.out) (HS.out.2.1.keep HB_w9.out) (HS.out.2.2.keep HB_w9.out) HWD.out.1 HWD.out.2.1 HWD.out.2.2).mono ?_
        rintro e wA ⟨hM, hb⟩
        rw [H3.out.1] at hM
        obtain rfl := merge_err hM H3.out.2
        have HB_wA : Hid (Below W.heap.size W wA) := Lib.hid (bcall HB_w9.out hb)
        have X3_wA := Lib.hid (X3_w9.out.keep hb)
        have X4_wA := Lib.hid (X4_w9.out.keep hb)
        have X5_wA := Lib.hid (X5_w9.out.keep hb)
        have X8_wA := Lib.hid (X8_w9.out.keep hb)
        clear hM hb hne
        have hee : (er == er) = true := beq_self_eq_true _
        go_wp2_with fail
        go_ret
        exact ⟨rfl, bnew HB_wA.out⟩
    · rw [show ((2 : Nat) : Int) = 2 from rfl]
      have HB_wr : Hid (Below W.heap.size W wr) := Lib.hid (HB_wb.out.trans (HI.out.1.mono HB_wb.out.size))
      have X3_wr := Lib.hid (X3_wb.out.keep HI.out.1)
      have X4_wr := Lib.hid (X4_wb.out.keep HI.out.1)
      have X5_wr := Lib.hid (X5_wb.out.keep HI.out.1)
      have c0 : wr.cell? ⟨g27, 2, none⟩ = some (.slice a3 n3 c3) := (X27_wb.out.keep HI.out.1).all.1 2
      go_upto_region 6 with fail
      clear c0
      refine name_world ?_
      intro w8 hw8
      have X8_w8 : Hid (Bx w8 wr.heap.size 57 #[(.slice a3 n3 c3)]) := Lib.hid (by rw [hw8]; exact Bx.new _ _ _)
      have hbw8 : Below wr.heap.size wr w8 := by rw [hw8]; exact bnew (Below.refl _ _)
      have HB_w8 : Hid (Below W.heap.size W w8) := Lib.hid (bcall HB_wr.out hbw8)
      have X3_w8 := Lib.hid (X3_wr.out.keep hbw8)
      have X4_w8 := Lib.hid (X4_wr.out.keep hbw8)
      have X5_w8 := Lib.hid (X5_wr.out.keep hbw8)
      obtain ⟨p8, hp8⟩ : ∃ p, wr.heap.size = p := ⟨_, rfl⟩
      rw [hp8] at X8_w8 ⊢
      have HB8i := Lib.hid hbw8
      clear hw8 hbw8 hp8
      have q8 := X8_w8.out.all.1 0
      simp only [List.getElem?_toArray, List.getElem?_cons_zero] at q8
      go_wp2_with fail
      clear q8
      refine (ref_LookError _ u _ (HS.out.2.2.keep HB_w8.out)).mono ?_
      rintro e w9 ⟨rfl, hb⟩
      have HI9 : Hid (Below wb.heap.size wb w9) := Lib.hid (HI.out.1.trans ((HB8i.out.trans (hb.mono HB8i.out.size)).mono HI.out.1.size))
      have HB_w9 : Hid (Below W.heap.size W w9) := Lib.hid (bcall HB_w8.out hb)
      have X3_w9 := Lib.hid (X3_w8.out.keep hb)
      have X4_w9 := Lib.hid (X4_w8.out.keep hb)
      have X5_w9 := Lib.hid (X5_w8.out.keep hb)
      have X8_w9 := Lib.hid (X8_w8.out.keep hb)
      clear hb
      obtain ⟨er, her⟩ : ∃ x, lookErr u = x := ⟨_, rfl⟩
      have HER := Lib.hid her
      rw [her]
      clear her
      by_cases h0 : er = 0
      · subst h0
        go_wp2_with fail
        go_roundw
        case rel => exact ⟨2 + 1, by omega, by go_num, Lib.hid ⟨HI9.out, fun j hj => by
          rcases (by omega : j = 0 ∨ j = 1 ∨ j = 2) with rfl | rfl | rfl
          · exact HI.out.2 0 (by omega)
          · exact HI.out.2 1 (by omega)
          · exact HER.out⟩⟩
        case measure => simp [RowKit.intOf]
      · have hne : (er == 0) = false := beq_eq_false_iff_ne.2 h0
        have H3 : Hid (err3 o t u = er ∧ er ≠ 0) := Lib.hid ⟨by
          unfold err3
          rw [firstNZ, if_pos (show lookErr o = 0 from HI.out.2 0 (by omega))]
          rw [firstNZ, if_pos (show lookErr t = 0 from HI.out.2 1 (by omega))]
          rw [firstNZ, if_neg (by rw [HER.out]; exact h0)]
          exact HER.out, h0⟩
        have q3 := X3_w9.out.all.1 0
        have q4 := X4_w9.out.all.1 0
        have q5 := X5_w9.out.all.1 0
        simp only [List.getElem?_toArray, List.getElem?_cons_zero] at q3 q4 q5
        clear h0
        go_wp2_with fail
        clear q3 q4 q5
        refine (conform_Merge _ _ _ o t u _ (HE.out.below HB_w9.out) (HS.out.1.keep HB_w9.out) (HS.out.2.1.keep HB_w9.out) (HS.out.2.2.keep HB_w9.out) HWD.out.1 HWD.out.2.1 HWD.out.2.2).mono ?_
        rintro e wA ⟨hM, hb⟩
        rw [H3.out.1] at hM
        obtain rfl := merge_err hM H3.out.2
        have HB_wA : Hid (Below W.heap.size W wA) := Lib.hid (bcall HB_w9.out hb)
        have X3_wA := Lib.hid (X3_w9.out.keep hb)
        have X4_wA := Lib.hid (X4_w9.out.keep hb)
        have X5_wA := Lib.hid (X5_w9.out.keep hb)
        have X8_wA := Lib.hid (X8_w9.out.keep hb)
        clear hM hb hne
        have hee : (er == er) = true := beq_self_eq_true _
        go_wp2_with fail
        go_ret
        exact ⟨rfl, bnew HB_wA.out⟩
    · rw [show ((3 : Nat) : Int) = 3 from rfl]
      have HR : Hid (LookR o ∧ LookR t ∧ LookR u) := Lib.hid ⟨⟨lookErr_ok (HI.out.2 0 (by omega)), HWD.out.1⟩, ⟨lookErr_ok (HI.out.2 1 (by omega)), HWD.out.2.1⟩, ⟨lookErr_ok (HI.out.2 2 (by omega)), HWD.out.2.2⟩⟩
      have hz : ∀ a b c, lookErr a = 0 → lookErr b = 0 → lookErr c = 0 → err3 a b c = 0 := fun a b c h1 h2 h3 => by
        unfold err3
        rw [firstNZ, if_pos h1, firstNZ, if_pos h2, firstNZ, if_pos h3]
        rfl
      have e0 : lookErr o = 0 := HI.out.2 0 (by omega)
      have e1 : lookErr t = 0 := HI.out.2 1 (by omega)
      have e2 : lookErr u = 0 := HI.out.2 2 (by omega)
      have HZ : Hid (err3 o t u = 0 ∧ err3 o u t = 0 ∧ err3 o t o = 0) := Lib.hid ⟨hz _ _ _ e0 e1 e2, hz _ _ _ e0 e2 e1, hz _ _ _ e0 e1 e0⟩
      have HCL : Hid ((confs o t u).length ≤ 100000) := Lib.hid (by have := confs_len HR.out.1 HR.out.2.1 HR.out.2.2; omega)
      clear hz e0 e1 e2
      have HB_wr : Hid (Below W.heap.size W wr) := Lib.hid (HB_wb.out.trans (HI.out.1.mono HB_wb.out.size))
      have X3_wr := Lib.hid (X3_wb.out.keep HI.out.1)
      have X4_wr := Lib.hid (X4_wb.out.keep HI.out.1)
      have X5_wr := Lib.hid (X5_wb.out.keep HI.out.1)
      have q3 := X3_wr.out.all.1 0
      have q4 := X4_wr.out.all.1 0
      have q5 := X5_wr.out.all.1 0
      simp only [List.getElem?_toArray, List.getElem?_cons_zero] at q3 q4 q5
      go_wp2_with fail
      clear q3 q4 q5
      refine (conform_Merge _ _ _ o t u _ (HE.out.below HB_wr.out) (HS.out.1.keep HB_wr.out) (HS.out.2.1.keep HB_wr.out) (HS.out.2.2.keep HB_wr.out) HWD.out.1 HWD.out.2.1 HWD.out.2.2).mono ?_
      rintro e wA ⟨hM, hb⟩
      rw [HZ.out.1] at hM
      rcases merge_two hM with ⟨h5, rfl⟩ | ⟨h5, xa, xn, xc, la, ln, lc, hln, rfl, hSx, hOl⟩
      · have HB_wA : Hid (Below W.heap.size W wA) := Lib.hid (bcall HB_wr.out hb)
        have X3_wA := Lib.hid (X3_wr.out.keep hb)
        have X4_wA := Lib.hid (X4_wr.out.keep hb)
        have X5_wA := Lib.hid (X5_wr.out.keep hb)
        have H5 := Lib.hid h5
        clear hM hb h5
        go_upto_region 12 with fail
        refine name_world ?_
        intro wB hwB
        have X13_wB : Hid (Bx wB wA.heap.size 57 #[.slice none 0 0]) := Lib.hid (by rw [hwB]; exact Bx.new _ _ _)
        have hbwB : Below wA.heap.size wA wB := by rw [hwB]; exact bnew (Below.refl _ _)
        have HB_wB : Hid (Below W.heap.size W wB) := Lib.hid (bcall HB_wA.out hbwB)
        have X3_wB := Lib.hid (X3_wA.out.keep hbwB)
        have X4_wB := Lib.hid (X4_wA.out.keep hbwB)
        have X5_wB := Lib.hid (X5_wA.out.keep hbwB)
        obtain ⟨p13, hp13⟩ : ∃ p, wA.heap.size = p := ⟨_, rfl⟩
        rw [hp13] at X13_wB ⊢
        clear hwB hbwB hp13
        have q3 := X3_wB.out.all.1 0
        have q4 := X4_wB.out.all.1 0
        have q5 := X5_wB.out.all.1 0
        simp only [List.getElem?_toArray, List.getElem?_cons_zero] at q3 q4 q5
        go_wp2_with fail
        clear q3 q4 q5
        refine (ref_Merge _ _ _ o t u _ (HE.out.below HB_wB.out) (HS.out.1.keep HB_wB.out) (HS.out.2.1.keep HB_wB.out) (HS.out.2.2.keep HB_wB.out) HR.out.1 HR.out.2.1 HR.out.2.2).mono ?_
        rintro e wC ⟨hM, hb⟩
        rcases merge_two hM with ⟨_, rfl⟩ | ⟨h5, _⟩
        · have HB_wC : Hid (Below W.heap.size W wC) := Lib.hid (bcall HB_wB.out hb)
          have X3_wC := Lib.hid (X3_wB.out.keep hb)
          have X4_wC := Lib.hid (X4_wB.out.keep hb)
          have X5_wC := Lib.hid (X5_wB.out.keep hb)
          have X13_wC := Lib.hid (X13_wB.out.keep hb)
          clear hM hb
          go_upto_region 13 with fail
          refine name_world ?_
          intro wD hwD
          have X16_wD : Hid (Bx wD wC.heap.size 57 #[.slice none 0 0]) := Lib.hid (by rw [hwD]; exact Bx.new _ _ _)
          have hbwD : Below wC.heap.size wC wD := by rw [hwD]; exact bnew (Below.refl _ _)
          have HB_wD : Hid (Below W.heap.size W wD) := Lib.hid (bcall HB_wC.out hbwD)
          have X3_wD := Lib.hid (X3_wC.out.keep hbwD)
          have X4_wD := Lib.hid (X4_wC.out.keep hbwD)
          have X5_wD := Lib.hid (X5_wC.out.keep hbwD)
          have X13_wD := Lib.hid (X13_wC.out.keep hbwD)
          obtain ⟨p16, hp16⟩ : ∃ p, wC.heap.size = p := ⟨_, rfl⟩
          rw [hp16] at X16_wD ⊢
          clear hwD hbwD hp16
          go_wp2_with fail
          refine (equal_texts 0 0 _ _ [] [] _ (own_nilS 0 _) (own_nilS 0 _) (Nat.zero_le _) rfl).mono ?_
          rintro e wE ⟨rfl, hb⟩
          have HB_wE : Hid (Below W.heap.size W wE) := Lib.hid (bcall HB_wD.out hb)
          have X3_wE := Lib.hid (X3_wD.out.keep hb)
          have X4_wE := Lib.hid (X4_wD.out.keep hb)
          have X5_wE := Lib.hid (X5_wD.out.keep hb)
          have X13_wE := Lib.hid (X13_wD.out.keep hb)
          have X16_wE := Lib.hid (X16_wD.out.keep hb)
          clear hb
          have q13 := X13_wE.out.all.1 0
          have q16 := X16_wE.out.all.1 0
          simp only [List.getElem?_toArray, List.getElem?_cons_zero] at q13 q16
          go_wp2_with fail
          clear q13 q16
          refine (ref_SameLook _ _ [] [] _ (HE.out.below HB_wE.out) (sl_nil _) (sl_nil _) (fun r hr => by cases hr) (fun r hr => by cases hr) (Nat.zero_le _)).mono ?_
          rintro e wF ⟨rfl, hb⟩
          rw [show sameL [] [] = true from rfl]
          have HB_wF : Hid (Below W.heap.size W wF) := Lib.hid (bcall HB_wE.out hb)
          have X3_wF := Lib.hid (X3_wE.out.keep hb)
          have X4_wF := Lib.hid (X4_wE.out.keep hb)
          have X5_wF := Lib.hid (X5_wE.out.keep hb)
          have X13_wF := Lib.hid (X13_wE.out.keep hb)
          have X16_wF := Lib.hid (X16_wE.out.keep hb)
          clear hb
          go_wp2_with fail
          go_ret
          exact ⟨rfl, HB_wF.out⟩
        · have h6 := outPR_len o t u
          have h7 := H5.out
          omega
      · have HB_wA : Hid (Below W.heap.size W wA) := Lib.hid (bcall HB_wr.out hb)
        have X3_wA := Lib.hid (X3_wr.out.keep hb)
        have X4_wA := Lib.hid (X4_wr.out.keep hb)
        have X5_wA := Lib.hid (X5_wr.out.keep hb)
        have Sx_wA := Lib.hid hSx
        have Ol_wA := Lib.hid hOl
        have H5 := Lib.hid (And.intro h5 hln)
        clear hM hb hSx hOl h5 hln
        go_upto_region 12 with fail
        refine name_world ?_
        intro wB hwB
        have X13_wB : Hid (Bx wB wA.heap.size 57 #[.slice xa xn xc]) := Lib.hid (by rw [hwB]; exact Bx.new _ _ _)
        have hbwB : Below wA.heap.size wA wB := by rw [hwB]; exact bnew (Below.refl _ _)
        have HB_wB : Hid (Below W.heap.size W wB) := Lib.hid (bcall HB_wA.out hbwB)
        have X3_wB := Lib.hid (X3_wA.out.keep hbwB)
        have X4_wB := Lib.hid (X4_wA.out.keep hbwB)
        have X5_wB := Lib.hid (X5_wA.out.keep hbwB)
        have Sx_wB := Lib.hid (Sx_wA.out.keep hbwB)
        have Ol_wB := Lib.hid (Ol_wA.out.keep hbwB)
        obtain ⟨p13, hp13⟩ : ∃ p, wA.heap.size = p := ⟨_, rfl⟩
        rw [hp13] at X13_wB ⊢
        clear hwB hbwB hp13
        have q3 := X3_wB.out.all.1 0
        have q4 := X4_wB.out.all.1 0
        have q5 := X5_wB.out.all.1 0
        simp only [List.getElem?_toArray, List.getElem?_cons_zero] at q3 q4 q5
        go_wp2_with fail
        clear q3 q4 q5
        refine (ref_Merge _ _ _ o t u _ (HE.out.below HB_wB.out) (HS.out.1.keep HB_wB.out) (HS.out.2.1.keep HB_wB.out) (HS.out.2.2.keep HB_wB.out) HR.out.1 HR.out.2.1 HR.out.2.2).mono ?_
        rintro e wC ⟨hM, hb⟩
        rcases merge_two hM with ⟨h5, _⟩ | ⟨_, ya, yn, yc, ma, mn, mc, hmn, rfl, hSy, hOm⟩
        · have h6 := outPR_len o t u
          have h7 := H5.out.1
          omega
        · have HB_wC : Hid (Below W.heap.size W wC) := Lib.hid (bcall HB_wB.out hb)
          have X3_wC := Lib.hid (X3_wB.out.keep hb)
          have X4_wC := Lib.hid (X4_wB.out.keep hb)
          have X5_wC := Lib.hid (X5_wB.out.keep hb)
          have X13_wC := Lib.hid (X13_wB.out.keep hb)
          have Sx_wC := Lib.hid (Sx_wB.out.keep hb)
          have Ol_wC := Lib.hid (Ol_wB.out.keep hb)
          have Sy_wC := Lib.hid hSy
          have Om_wC := Lib.hid hOm
          clear hM hb hSy hOm hmn
          go_upto_region 13 with fail
          refine name_world ?_
          intro wD hwD
          have X16_wD : Hid (Bx wD wC.heap.size 57 #[.slice ya yn yc]) := Lib.hid (by rw [hwD]; exact Bx.new _ _ _)
          have hbwD : Below wC.heap.size wC wD := by rw [hwD]; exact bnew (Below.refl _ _)
          have HB_wD : Hid (Below W.heap.size W wD) := Lib.hid (bcall HB_wC.out hbwD)
          have X3_wD := Lib.hid (X3_wC.out.keep hbwD)
          have X4_wD := Lib.hid (X4_wC.out.keep hbwD)
          have X5_wD := Lib.hid (X5_wC.out.keep hbwD)
          have X13_wD := Lib.hid (X13_wC.out.keep hbwD)
          have Sx_wD := Lib.hid (Sx_wC.out.keep hbwD)
          have Sy_wD := Lib.hid (Sy_wC.out.keep hbwD)
          have Ol_wD := Lib.hid (Ol_wC.out.keep hbwD)
          have Om_wD := Lib.hid (Om_wC.out.keep hbwD)
          obtain ⟨p16, hp16⟩ : ∃ p, wC.heap.size = p := ⟨_, rfl⟩
          rw [hp16] at X16_wD ⊢
          clear hwD hbwD hp16
          go_wp2_with fail
          refine (equal_texts _ _ _ _ (confs o t u) (confs o t u) _ Ol_wD.out Om_wD.out HCL.out rfl).mono ?_
          rintro e wE ⟨rfl, hb⟩
          have HB_wE : Hid (Below W.heap.size W wE) := Lib.hid (bcall HB_wD.out hb)
          have X3_wE := Lib.hid (X3_wD.out.keep hb)
          have X4_wE := Lib.hid (X4_wD.out.keep hb)
          have X5_wE := Lib.hid (X5_wD.out.keep hb)
          have X13_wE := Lib.hid (X13_wD.out.keep hb)
          have X16_wE := Lib.hid (X16_wD.out.keep hb)
          have Sx_wE := Lib.hid (Sx_wD.out.keep hb)
          have Sy_wE := Lib.hid (Sy_wD.out.keep hb)
          have Ol_wE := Lib.hid (Ol_wD.out.keep hb)
          have Om_wE := Lib.hid (Om_wD.out.keep hb)
          clear hb
          have q13 := X13_wE.out.all.1 0
          have q16 := X16_wE.out.all.1 0
          simp only [List.getElem?_toArray, List.getElem?_cons_zero] at q13 q16
          go_wp2_with fail
          clear q13 q16
          refine (ref_SameLook _ _ (outP o t u) (outR o t u) _ (HE.out.below HB_wE.out) Sx_wE.out Sy_wE.out (outP_right HR.out.2.1 HR.out.2.2) (outR_right HR.out.2.1 HR.out.2.2) (by have := H5.out.1; omega)).mono ?_
          rintro e wF ⟨rfl, hb⟩
          rw [out_same]
          have HB_wF : Hid (Below W.heap.size W wF) := Lib.hid (bcall HB_wE.out hb)
          have X3_wF := Lib.hid (X3_wE.out.keep hb)
          have X4_wF := Lib.hid (X4_wE.out.keep hb)
          have X5_wF := Lib.hid (X5_wE.out.keep hb)
          have X13_wF := Lib.hid (X13_wE.out.keep hb)
          have X16_wF := Lib.hid (X16_wE.out.keep hb)
          have Sx_wF := Lib.hid (Sx_wE.out.keep hb)
          have Sy_wF := Lib.hid (Sy_wE.out.keep hb)
          have Ol_wF := Lib.hid (Ol_wE.out.keep hb)
          have Om_wF := Lib.hid (Om_wE.out.keep hb)
          clear hb
          have q3 := X3_wF.out.all.1 0
          have q4 := X4_wF.out.all.1 0
          have q5 := X5_wF.out.all.1 0
          simp only [List.getElem?_toArray, List.getElem?_cons_zero] at q3 q4 q5
          go_wp2_with fail
          clear q3 q4 q5
          refine (conform_Merge _ _ _ o u t _ (HE.out.below HB_wF.out) (HS.out.1.keep HB_wF.out) (HS.out.2.2.keep HB_wF.out) (HS.out.2.1.keep HB_wF.out) HWD.out.1 HWD.out.2.2 HWD.out.2.1).mono ?_
          rintro e wG ⟨hM, hb⟩
          rw [HZ.out.2.1] at hM
          rcases merge_two hM with ⟨h5, rfl⟩ | ⟨h5, za, zn, zc, na, nn, nc, hnn, rfl, hSz, hOn⟩
          · have HB_wG : Hid (Below W.heap.size W wG) := Lib.hid (bcall HB_wF.out hb)
            have X3_wG := Lib.hid (X3_wF.out.keep hb)
            have X4_wG := Lib.hid (X4_wF.out.keep hb)
            have X5_wG := Lib.hid (X5_wF.out.keep hb)
            have X13_wG := Lib.hid (X13_wF.out.keep hb)
            have X16_wG := Lib.hid (X16_wF.out.keep hb)
            have Sx_wG := Lib.hid (Sx_wF.out.keep hb)
            have Sy_wG := Lib.hid (Sy_wF.out.keep hb)
            have Ol_wG := Lib.hid (Ol_wF.out.keep hb)
            have Om_wG := Lib.hid (Om_wF.out.keep hb)
            clear hM hb h5
            go_wp2_with fail
            go_ret
            exact ⟨rfl, bnew HB_wG.out⟩
          · have HB_wG : Hid (Below W.heap.size W wG) := Lib.hid (bcall HB_wF.out hb)
            have X3_wG := Lib.hid (X3_wF.out.keep hb)
            have X4_wG := Lib.hid (X4_wF.out.keep hb)
            have X5_wG := Lib.hid (X5_wF.out.keep hb)
            have X13_wG := Lib.hid (X13_wF.out.keep hb)
            have X16_wG := Lib.hid (X16_wF.out.keep hb)
            have Sx_wG := Lib.hid (Sx_wF.out.keep hb)
            have Sy_wG := Lib.hid (Sy_wF.out.keep hb)
            have Ol_wG := Lib.hid (Ol_wF.out.keep hb)
            have Om_wG := Lib.hid (Om_wF.out.keep hb)
            have Sz_wG := Lib.hid hSz
            have On_wG := Lib.hid hOn
            have H6 := Lib.hid (And.intro h5 hnn)
            clear hM hb hSz hOn h5 hnn
            go_upto_region 18 with fail
            refine name_world ?_
            intro wH hwH
            have X19_wH : Hid (Bx wH wG.heap.size 57 #[.slice za zn zc]) := Lib.hid (by rw [hwH]; exact Bx.new _ _ _)
            have hbwH : Below wG.heap.size wG wH := by rw [hwH]; exact bnew (Below.refl _ _)
            have HB_wH : Hid (Below W.heap.size W wH) := Lib.hid (bcall HB_wG.out hbwH)
            have X3_wH := Lib.hid (X3_wG.out.keep hbwH)
            have X4_wH := Lib.hid (X4_wG.out.keep hbwH)
            have X5_wH := Lib.hid (X5_wG.out.keep hbwH)
            have X13_wH := Lib.hid (X13_wG.out.keep hbwH)
            have X16_wH := Lib.hid (X16_wG.out.keep hbwH)
            have Sx_wH := Lib.hid (Sx_wG.out.keep hbwH)
            have Sy_wH := Lib.hid (Sy_wG.out.keep hbwH)
            have Sz_wH := Lib.hid (Sz_wG.out.keep hbwH)
            have Ol_wH := Lib.hid (Ol_wG.out.keep hbwH)
            have Om_wH := Lib.hid (Om_wG.out.keep hbwH)
            have On_wH := Lib.hid (On_wG.out.keep hbwH)
            obtain ⟨p19, hp19⟩ : ∃ p, wG.heap.size = p := ⟨_, rfl⟩
            rw [hp19] at X19_wH ⊢
            clear hwH hbwH hp19
            go_wp2_with fail
            refine (equal_texts _ _ _ _ (confs o t u) (confs o u t) _ Ol_wH.out On_wH.out HCL.out (confs_comm o t u)).mono ?_
            rintro e wI ⟨rfl, hb⟩
            have HB_wI : Hid (Below W.heap.size W wI) := Lib.hid (bcall HB_wH.out hb)
            have X3_wI := Lib.hid (X3_wH.out.keep hb)
            have X4_wI := Lib.hid (X4_wH.out.keep hb)
            have X5_wI := Lib.hid (X5_wH.out.keep hb)
            have X13_wI := Lib.hid (X13_wH.out.keep hb)
            have X16_wI := Lib.hid (X16_wH.out.keep hb)
            have X19_wI := Lib.hid (X19_wH.out.keep hb)
            have Sx_wI := Lib.hid (Sx_wH.out.keep hb)
            have Sy_wI := Lib.hid (Sy_wH.out.keep hb)
            have Sz_wI := Lib.hid (Sz_wH.out.keep hb)
            have Ol_wI := Lib.hid (Ol_wH.out.keep hb)
            have Om_wI := Lib.hid (Om_wH.out.keep hb)
            have On_wI := Lib.hid (On_wH.out.keep hb)
            clear hb
            by_cases hl0 : ln = 0
            · subst hl0
              have hc0 : Hid (confs o t u = []) := Lib.hid (List.length_eq_zero_iff.1 H5.out.2.symm)
              have q13 := X13_wI.out.all.1 0
              have q19 := X19_wI.out.all.1 0
              simp only [List.getElem?_toArray, List.getElem?_cons_zero] at q13 q19
              go_wp2_with fail
              clear q13 q19
              refine (ref_SameLook _ _ (outP o t u) (outP o u t) _ (HE.out.below HB_wI.out) Sx_wI.out Sz_wI.out (outP_right HR.out.2.1 HR.out.2.2) (outP_right HR.out.2.2 HR.out.2.1) (by have := H5.out.1; omega)).mono ?_
              rintro e wJ ⟨rfl, hb⟩
              rw [out_comm hc0.out]
              have HB_wJ : Hid (Below W.heap.size W wJ) := Lib.hid (bcall HB_wI.out hb)
              have X3_wJ := Lib.hid (X3_wI.out.keep hb)
              have X4_wJ := Lib.hid (X4_wI.out.keep hb)
              have X5_wJ := Lib.hid (X5_wI.out.keep hb)
              have X13_wJ := Lib.hid (X13_wI.out.keep hb)
              have X16_wJ := Lib.hid (X16_wI.out.keep hb)
              have X19_wJ := Lib.hid (X19_wI.out.keep hb)
              have Sx_wJ := Lib.hid (Sx_wI.out.keep hb)
              have Sy_wJ := Lib.hid (Sy_wI.out.keep hb)
              have Sz_wJ := Lib.hid (Sz_wI.out.keep hb)
              have Ol_wJ := Lib.hid (Ol_wI.out.keep hb)
              have Om_wJ := Lib.hid (Om_wI.out.keep hb)
              have On_wJ := Lib.hid (On_wI.out.keep hb)
              clear hb
              have q3 := X3_wJ.out.all.1 0
              have q4 := X4_wJ.out.all.1 0
              simp only [List.getElem?_toArray, List.getElem?_cons_zero] at q3 q4
              go_wp2_with fail
              clear q3 q4
              refine (conform_Merge _ _ _ o t o _ (HE.out.below HB_wJ.out) (HS.out.1.keep HB_wJ.out) (HS.out.2.1.keep HB_wJ.out) (HS.out.1.keep HB_wJ.out) HWD.out.1 HWD.out.2.1 HWD.out.1).mono ?_
              rintro e wK ⟨hM, hb⟩
              rw [HZ.out.2.2] at hM
              rcases merge_two hM with ⟨h5, _⟩ | ⟨h5, ua, un, uc, ka, kn, kc, hkn, rfl, hSu, hOk⟩
              · have h6 := sameL_len (out_base (o := o) HR.out.2.1.ok.srt)
                have h7 := HR.out.2.1.ok.len
                omega
              · have HB_wK : Hid (Below W.heap.size W wK) := Lib.hid (bcall HB_wJ.out hb)
                have X3_wK := Lib.hid (X3_wJ.out.keep hb)
                have X4_wK := Lib.hid (X4_wJ.out.keep hb)
                have X5_wK := Lib.hid (X5_wJ.out.keep hb)
                have X13_wK := Lib.hid (X13_wJ.out.keep hb)
                have X16_wK := Lib.hid (X16_wJ.out.keep hb)
                have X19_wK := Lib.hid (X19_wJ.out.keep hb)
                have Sx_wK := Lib.hid (Sx_wJ.out.keep hb)
                have Sy_wK := Lib.hid (Sy_wJ.out.keep hb)
                have Sz_wK := Lib.hid (Sz_wJ.out.keep hb)
                have Ol_wK := Lib.hid (Ol_wJ.out.keep hb)
                have Om_wK := Lib.hid (Om_wJ.out.keep hb)
                have On_wK := Lib.hid (On_wJ.out.keep hb)
                have Su_wK := Lib.hid hSu
                have H7 := Lib.hid h5
                have hk0 : kn = 0 := by rw [hkn, confs_base]; rfl
                clear hM hb hSu hOk h5 hkn
                subst hk0
                go_upto_region 23 with fail
                refine name_world ?_
                intro wL hwL
                have X21_wL : Hid (Bx wL wK.heap.size 57 #[.slice ua un uc]) := Lib.hid (by rw [hwL]; exact Bx.new _ _ _)
                have hbwL : Below wK.heap.size wK wL := by rw [hwL]; exact bnew (Below.refl _ _)
                have HB_wL : Hid (Below W.heap.size W wL) := Lib.hid (bcall HB_wK.out hbwL)
                have X3_wL := Lib.hid (X3_wK.out.keep hbwL)
                have X4_wL := Lib.hid (X4_wK.out.keep hbwL)
                have X5_wL := Lib.hid (X5_wK.out.keep hbwL)
                have X13_wL := Lib.hid (X13_wK.out.keep hbwL)
                have X16_wL := Lib.hid (X16_wK.out.keep hbwL)
                have X19_wL := Lib.hid (X19_wK.out.keep hbwL)
                have Sx_wL := Lib.hid (Sx_wK.out.keep hbwL)
                have Sy_wL := Lib.hid (Sy_wK.out.keep hbwL)
                have Sz_wL := Lib.hid (Sz_wK.out.keep hbwL)
                have Su_wL := Lib.hid (Su_wK.out.keep hbwL)
                have Ol_wL := Lib.hid (Ol_wK.out.keep hbwL)
                have Om_wL := Lib.hid (Om_wK.out.keep hbwL)
                have On_wL := Lib.hid (On_wK.out.keep hbwL)
                obtain ⟨p21, hp21⟩ : ∃ p, wK.heap.size = p := ⟨_, rfl⟩
                rw [hp21] at X21_wL ⊢
                clear hwL hbwL hp21
                have q21 := X21_wL.out.all.1 0
                have q4 := X4_wL.out.all.1 0
                simp only [List.getElem?_toArray, List.getElem?_cons_zero] at q21 q4
                go_wp2_with fail
                clear q21 q4
                refine (ref_SameLook _ _ (outP o t o) t _ (HE.out.below HB_wL.out) Su_wL.out (HS.out.2.1.keep HB_wL.out) (outP_right HR.out.2.1 HR.out.1) HR.out.2.1.row (by have := H7.out; omega)).mono ?_
                rintro e wM ⟨rfl, hb⟩
                rw [out_base (o := o) HR.out.2.1.ok.srt]
                have HB_wM : Hid (Below W.heap.size W wM) := Lib.hid (bcall HB_wL.out hb)
                have X3_wM := Lib.hid (X3_wL.out.keep hb)
                have X4_wM := Lib.hid (X4_wL.out.keep hb)
                have X5_wM := Lib.hid (X5_wL.out.keep hb)
                have X13_wM := Lib.hid (X13_wL.out.keep hb)
                have X16_wM := Lib.hid (X16_wL.out.keep hb)
                have X19_wM := Lib.hid (X19_wL.out.keep hb)
                have X21_wM := Lib.hid (X21_wL.out.keep hb)
                have Sx_wM := Lib.hid (Sx_wL.out.keep hb)
                have Sy_wM := Lib.hid (Sy_wL.out.keep hb)
                have Sz_wM := Lib.hid (Sz_wL.out.keep hb)
                have Su_wM := Lib.hid (Su_wL.out.keep hb)
                have Ol_wM := Lib.hid (Ol_wL.out.keep hb)
                have Om_wM := Lib.hid (Om_wL.out.keep hb)
                have On_wM := Lib.hid (On_wL.out.keep hb)
                clear hb
                go_wp2_with fail
                go_ret
                exact ⟨rfl, HB_wM.out⟩
            · have hne : ((ln : Int) == 0) = false := beq_eq_false_iff_ne.2 (by omega)
              have q3 := X3_wI.out.all.1 0
              have q4 := X4_wI.out.all.1 0
              simp only [List.getElem?_toArray, List.getElem?_cons_zero] at q3 q4
              go_wp2_with fail
              clear q3 q4
              refine (conform_Merge _ _ _ o t o _ (HE.out.below HB_wI.out) (HS.out.1.keep HB_wI.out) (HS.out.2.1.keep HB_wI.out) (HS.out.1.keep HB_wI.out) HWD.out.1 HWD.out.2.1 HWD.out.1).mono ?_
              rintro e wK ⟨hM, hb⟩
              rw [HZ.out.2.2] at hM
              rcases merge_two hM with ⟨h5, _⟩ | ⟨h5, ua, un, uc, ka, kn, kc, hkn, rfl, hSu, hOk⟩
              · have h6 := sameL_len (out_base (o := o) HR.out.2.1.ok.srt)
                have h7 := HR.out.2.1.ok.len
                omega
              · have HB_wK : Hid (Below W.heap.size W wK) := Lib.hid (bcall HB_wI.out hb)
                have X3_wK := Lib.hid (X3_wI.out.keep hb)
                have X4_wK := Lib.hid (X4_wI.out.keep hb)
                have X5_wK := Lib.hid (X5_wI.out.keep hb)
                have X13_wK := Lib.hid (X13_wI.out.keep hb)
                have X16_wK := Lib.hid (X16_wI.out.keep hb)
                have X19_wK := Lib.hid (X19_wI.out.keep hb)
                have Sx_wK := Lib.hid (Sx_wI.out.keep hb)
                have Sy_wK := Lib.hid (Sy_wI.out.keep hb)
                have Sz_wK := Lib.hid (Sz_wI.out.keep hb)
                have Ol_wK := Lib.hid (Ol_wI.out.keep hb)
                have Om_wK := Lib.hid (Om_wI.out.keep hb)
                have On_wK := Lib.hid (On_wI.out.keep hb)
                have Su_wK := Lib.hid hSu
                have H7 := Lib.hid h5
                have hk0 : kn = 0 := by rw [hkn, confs_base]; rfl
                clear hM hb hSu hOk h5 hkn
                subst hk0
                go_upto_region 23 with fail
                refine name_world ?_
                intro wL hwL
                have X21_wL : Hid (Bx wL wK.heap.size 57 #[.slice ua un uc]) := Lib.hid (by rw [hwL]; exact Bx.new _ _ _)
                have hbwL : Below wK.heap.size wK wL := by rw [hwL]; exact bnew (Below.refl _ _)
                have HB_wL : Hid (Below W.heap.size W wL) := Lib.hid (bcall HB_wK.out hbwL)
                have X3_wL := Lib.hid (X3_wK.out.keep hbwL)
                have X4_wL := Lib.hid (X4_wK.out.keep hbwL)
                have X5_wL := Lib.hid (X5_wK.out.keep hbwL)
                have X13_wL := Lib.hid (X13_wK.out.keep hbwL)
                have X16_wL := Lib.hid (X16_wK.out.keep hbwL)
                have X19_wL := Lib.hid (X19_wK.out.keep hbwL)
                have Sx_wL := Lib.hid (Sx_wK.out.keep hbwL)
                have Sy_wL := Lib.hid (Sy_wK.out.keep hbwL)
                have Sz_wL := Lib.hid (Sz_wK.out.keep hbwL)
                have Su_wL := Lib.hid (Su_wK.out.keep hbwL)
                have Ol_wL := Lib.hid (Ol_wK.out.keep hbwL)
                have Om_wL := Lib.hid (Om_wK.out.keep hbwL)
                have On_wL := Lib.hid (On_wK.out.keep hbwL)
                obtain ⟨p21, hp21⟩ : ∃ p, wK.heap.size = p := ⟨_, rfl⟩
                rw [hp21] at X21_wL ⊢
                clear hwL hbwL hp21
                have q21 := X21_wL.out.all.1 0
                have q4 := X4_wL.out.all.1 0
                simp only [List.getElem?_toArray, List.getElem?_cons_zero] at q21 q4
                go_wp2_with fail
                clear q21 q4
                refine (ref_SameLook _ _ (outP o t o) t _ (HE.out.below HB_wL.out) Su_wL.out (HS.out.2.1.keep HB_wL.out) (outP_right HR.out.2.1 HR.out.1) HR.out.2.1.row (by have := H7.out; omega)).mono ?_
                rintro e wM ⟨rfl, hb⟩
                rw [out_base (o := o) HR.out.2.1.ok.srt]
                have HB_wM : Hid (Below W.heap.size W wM) := Lib.hid (bcall HB_wL.out hb)
                have X3_wM := Lib.hid (X3_wL.out.keep hb)
                have X4_wM := Lib.hid (X4_wL.out.keep hb)
                have X5_wM := Lib.hid (X5_wL.out.keep hb)
                have X13_wM := Lib.hid (X13_wL.out.keep hb)
                have X16_wM := Lib.hid (X16_wL.out.keep hb)
                have X19_wM := Lib.hid (X19_wL.out.keep hb)
                have X21_wM := Lib.hid (X21_wL.out.keep hb)
                have Sx_wM := Lib.hid (Sx_wL.out.keep hb)
                have Sy_wM := Lib.hid (Sy_wL.out.keep hb)
                have Sz_wM := Lib.hid (Sz_wL.out.keep hb)
                have Su_wM := Lib.hid (Su_wL.out.keep hb)
                have Ol_wM := Lib.hid (Ol_wL.out.keep hb)
                have Om_wM := Lib.hid (Om_wL.out.keep hb)
                have On_wM := Lib.hid (On_wL.out.keep hb)
                clear hb
                go_wp2_with fail
                go_ret
                exact ⟨rfl, HB_wM.out⟩
end
end Go.Proofs.YticekgnmiaidjaaGreatDoor
