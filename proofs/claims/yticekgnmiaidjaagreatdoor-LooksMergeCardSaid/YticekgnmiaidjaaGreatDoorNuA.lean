/- The error of a list of grades: grade.checkAll, dyeref1.GradesError. (printed by gen_nua.py) -/
import Derived.Test.YticekgnmiaidjaaGreatDoorNuE
import Derived.Test.YticekgnmiaidjaaGreatDoorGlS
import Derived.Test.YticekgnmiaidjaaGreatDoorGnH
import Derived.Test.YticekgnmiaidjaaGreatDoorGnJ
namespace Go.Proofs.YticekgnmiaidjaaGreatDoor
open Go.RowKit Go.Lib

set_option maxRecDepth 100000 in
set_option maxHeartbeats 4000000 in
theorem grade_checkAll (v : Value) (gs : List Gd) (W : World) (h : SlG W v gs) : Calls Tryz.prog 31 #[v] W fun e w' => e = .returned (.int .i64 (gradesErr gs)) ∧ Below W.heap.size W w' := by
  obtain ⟨a, c, rfl, _, _, hrow⟩ := h
  obtain ⟨n, hn⟩ : ∃ n, gs.length = n := ⟨_, rfl⟩
  have HR := Lib.hid (And.intro hrow hn)
  rw [hn]
  clear hrow hn
  by_cases h64 : 64 < n
  · have hgt : decide ((n : Int) > 64) = true := decide_eq_true (by omega)
    go_enter Tryz.func31, Tryz.ntmps31
    go_wp2_with fail
    go_ret
    exact ⟨ret_int' (by unfold gradesErr; rw [HR.out.2, if_pos h64]), Below.refl _ _⟩
  · have hgt : decide ((n : Int) > 64) = false := decide_eq_false (by omega)
    have hgs : Hid (gradesErr gs = firstErr gs) := Lib.hid (by unfold gradesErr; rw [HR.out.2, if_neg h64])
    go_enter Tryz.func31, Tryz.ntmps31
    go_wp2_with fail
    go_loopw [11] (fun i wr => ∃ k : Nat, k ≤ n ∧ i = .int .i64 k ∧ Hid (Below W.heap.size W wr ∧ ∀ (j : Nat) (x : Gd), j < k → gs[j]? = some x → gradeErr x = 0)) (fun i _ => n - (RowKit.intOf i).toNat)
    case atStart => exact ⟨0, Nat.zero_le _, rfl, Lib.hid ⟨Below.refl _ _, fun j x hj => absurd hj (Nat.not_lt_zero _)⟩⟩
    case round =>
      obtain ⟨k, hk, rfl, HB⟩ := hrel
      clear hgt
      by_cases hlt : k < n
      · obtain ⟨g, hg⟩ : ∃ g, gs[k]? = some g := ⟨_, List.getElem?_eq_getElem (by have := HR.out.2; omega)⟩
        obtain ⟨b, o, ha, hbl, hG⟩ : ∃ b o, a = some ⟨b, o, none⟩ ∧ b < W.heap.size ∧ GlAt W b o gs := by
          rcases HR.out.1 with h0 | h0
          · rw [h0] at hg; simp at hg
          · exact h0
        subst ha
        obtain ⟨C, hC, hcl⟩ := hG k g hg
        have hcl' : ∀ (j : Nat) (v : Value), C[j]? = some v → wr.cell? ⟨b, o + k * 49 + j, none⟩ = some v := fun j v hj => by
          rw [HB.out.1.cell (p := ⟨b, o + k * 49 + j, none⟩) hbl]; exact hcl j v hj
        have hsz : (Tryz.prog.info? 46).map (·.size) = some C.size := by rw [hC.size]; exact grade_size
        have hst := fun w => grade_store w hC.size hC.one
        have hcs := hC.size
        have HS := Lib.hid (And.intro hC (And.intro hcl' (And.intro hsz (And.intro hg hbl))))
        have hd1 : decide ((k : Int) < (n : Int)) = true := decide_eq_true (by omega)
        clear hC hcl hcl' hsz hg hG hbl
        go_upto_region 5 with fail
        go_upto_region 6 with (refine wpList_load_cells rfl 46 (.tmp 13) rfl b (o + k * 49) rfl C HS.out.2.1 _ Tryz.underlying46 rfl HS.out.2.2.1 ?_)
        clear hst hcs
        refine name_world ?_
        intro W1 hW1
        have X5 : Hid (Bx W1 wr.heap.size 46 C) := Lib.hid (by rw [hW1]; exact Bx.new wr 46 C)
        have B1 : Hid (Below W.heap.size W W1) := Lib.hid (by rw [hW1]; exact bnew (ob := .cells C 46) HB.out.1)
        have GA := Lib.hid (GdAt.keep HS.out.1 B1.out)
        have hp := HB.out.1.size
        obtain ⟨p5, hp5⟩ : ∃ p, wr.heap.size = p := ⟨_, rfl⟩
        rw [hp5] at X5 hp ⊢
        clear hW1 hp5
        go_wp2_with (refine wpList_load_cells rfl 46 (.tmp 4) rfl p5 0 rfl C (fun j v hj => by rw [X5.out.all.1, Nat.zero_add]; exact hj) _ Tryz.underlying46 rfl HS.out.2.2.1 ?_)
        refine (grade_CheckGrade C g _ GA.out).mono ?_
        rintro e w2 ⟨rfl, hb2⟩
        have B2 := Lib.hid (bcall B1.out hb2)
        clear hb2
        obtain ⟨er, her⟩ : ∃ er, gradeErr g = er := ⟨_, rfl⟩
        have HE := Lib.hid her
        rw [her]
        clear her
        by_cases h0 : er = 0
        · subst h0
          go_wp2_with fail
          go_roundw
          case rel =>
            refine ⟨k + 1, by omega, by go_num, Lib.hid ⟨B2.out, fun j x hj hx => ?_⟩⟩
            by_cases hjk : j = k
            · subst hjk
              rw [HS.out.2.2.2.1] at hx
              rw [← Option.some.inj hx]; exact HE.out
            · exact HB.out.2 j x (by omega) hx
          case measure => simp [RowKit.intOf]; omega
        · have hne : (er == 0) = false := beq_eq_false_iff_ne.2 h0
          go_wp2_with fail
          go_ret
          exact ⟨ret_int' (by rw [hgs.out, firstErr_hit HS.out.2.2.2.1 HB.out.2 (by rw [HE.out]; exact h0), HE.out]), B2.out⟩
      · obtain rfl : k = n := by omega
        go_wp2_with fail
        go_ret
        exact ⟨ret_int' (by rw [hgs.out, firstErr_none fun j x hx => HB.out.2 j x (by rw [← HR.out.2]; exact (List.getElem?_eq_some_iff.1 hx).1) hx]), HB.out.1⟩

set_option maxRecDepth 100000 in
set_option maxHeartbeats 4000000 in
theorem ref_GradesError (v : Value) (gs : List Gd) (W : World) (h : SlG W v gs) : Calls Tryz.prog 9 #[v] W fun e w' => e = .returned (.int .i64 (gradesErr gs)) ∧ Below W.heap.size W w' := by
  obtain ⟨a, c, rfl, _, _, hrow⟩ := h
  obtain ⟨n, hn⟩ : ∃ n, gs.length = n := ⟨_, rfl⟩
  have HR := Lib.hid (And.intro hrow hn)
  rw [hn]
  clear hrow hn
  by_cases h64 : 64 < n
  · have hgt : decide ((n : Int) > 64) = true := decide_eq_true (by omega)
    go_enter Tryz.func9, Tryz.ntmps9
    go_wp2_with fail
    go_ret
    exact ⟨ret_int' (by unfold gradesErr; rw [HR.out.2, if_pos h64]), Below.refl _ _⟩
  · have hgt : decide ((n : Int) > 64) = false := decide_eq_false (by omega)
    have hgs : Hid (gradesErr gs = firstErr gs) := Lib.hid (by unfold gradesErr; rw [HR.out.2, if_neg h64])
    go_enter Tryz.func9, Tryz.ntmps9
    go_wp2_with fail
    go_loopw [11] (fun i wr => ∃ k : Nat, k ≤ n ∧ i = .int .i64 k ∧ Hid (Below W.heap.size W wr ∧ ∀ (j : Nat) (x : Gd), j < k → gs[j]? = some x → gradeErr x = 0)) (fun i _ => n - (RowKit.intOf i).toNat)
    case atStart => exact ⟨0, Nat.zero_le _, rfl, Lib.hid ⟨Below.refl _ _, fun j x hj => absurd hj (Nat.not_lt_zero _)⟩⟩
    case round =>
      obtain ⟨k, hk, rfl, HB⟩ := hrel
      clear hgt
      by_cases hlt : k < n
      · obtain ⟨g, hg⟩ : ∃ g, gs[k]? = some g := ⟨_, List.getElem?_eq_getElem (by have := HR.out.2; omega)⟩
        obtain ⟨b, o, ha, hbl, hG⟩ : ∃ b o, a = some ⟨b, o, none⟩ ∧ b < W.heap.size ∧ GlAt W b o gs := by
          rcases HR.out.1 with h0 | h0
          · rw [h0] at hg; simp at hg
          · exact h0
        subst ha
        obtain ⟨C, hC, hcl⟩ := hG k g hg
        have hcl' : ∀ (j : Nat) (v : Value), C[j]? = some v → wr.cell? ⟨b, o + k * 49 + j, none⟩ = some v := fun j v hj => by
          rw [HB.out.1.cell (p := ⟨b, o + k * 49 + j, none⟩) hbl]; exact hcl j v hj
        have hsz : (Tryz.prog.info? 46).map (·.size) = some C.size := by rw [hC.size]; exact grade_size
        have hst := fun w => grade_store w hC.size hC.one
        have hcs := hC.size
        have HS := Lib.hid (And.intro hC (And.intro hcl' (And.intro hsz (And.intro hg hbl))))
        have hd1 : decide ((k : Int) < (n : Int)) = true := decide_eq_true (by omega)
        clear hC hcl hcl' hsz hg hG hbl
        go_upto_region 5 with fail
        go_upto_region 6 with (refine wpList_load_cells rfl 46 (.tmp 13) rfl b (o + k * 49) rfl C HS.out.2.1 _ Tryz.underlying46 rfl HS.out.2.2.1 ?_)
        clear hst hcs
        refine name_world ?_
        intro W1 hW1
        have X5 : Hid (Bx W1 wr.heap.size 46 C) := Lib.hid (by rw [hW1]; exact Bx.new wr 46 C)
        have B1 : Hid (Below W.heap.size W W1) := Lib.hid (by rw [hW1]; exact bnew (ob := .cells C 46) HB.out.1)
        have GA := Lib.hid (GdAt.keep HS.out.1 B1.out)
        have hp := HB.out.1.size
        obtain ⟨p5, hp5⟩ : ∃ p, wr.heap.size = p := ⟨_, rfl⟩
        rw [hp5] at X5 hp ⊢
        clear hW1 hp5
        go_wp2_with (refine wpList_load_cells rfl 46 (.tmp 4) rfl p5 0 rfl C (fun j v hj => by rw [X5.out.all.1, Nat.zero_add]; exact hj) _ Tryz.underlying46 rfl HS.out.2.2.1 ?_)
        refine (ref_GradeError C g _ GA.out).mono ?_
        rintro e w2 ⟨rfl, hb2⟩
        have B2 := Lib.hid (bcall B1.out hb2)
        clear hb2
        obtain ⟨er, her⟩ : ∃ er, gradeErr g = er := ⟨_, rfl⟩
        have HE := Lib.hid her
        rw [her]
        clear her
        by_cases h0 : er = 0
        · subst h0
          go_wp2_with fail
          go_roundw
          case rel =>
            refine ⟨k + 1, by omega, by go_num, Lib.hid ⟨B2.out, fun j x hj hx => ?_⟩⟩
            by_cases hjk : j = k
            · subst hjk
              rw [HS.out.2.2.2.1] at hx
              rw [← Option.some.inj hx]; exact HE.out
            · exact HB.out.2 j x (by omega) hx
          case measure => simp [RowKit.intOf]; omega
        · have hne : (er == 0) = false := beq_eq_false_iff_ne.2 h0
          go_wp2_with fail
          go_ret
          exact ⟨ret_int' (by rw [hgs.out, firstErr_hit HS.out.2.2.2.1 HB.out.2 (by rw [HE.out]; exact h0), HE.out]), B2.out⟩
      · obtain rfl : k = n := by omega
        go_wp2_with fail
        go_ret
        exact ⟨ret_int' (by rw [hgs.out, firstErr_none fun j x hx => HB.out.2 j x (by rw [← HR.out.2]; exact (List.getElem?_eq_some_iff.1 hx).1) hx]), HB.out.1⟩

end Go.Proofs.YticekgnmiaidjaaGreatDoor
