/- grade.Tidy: the grades that are not neutral, in new memory. (printed by gen_nuc.py) -/
import Derived.Test.YticekgnmiaidjaaGreatDoorNuB
import Derived.Test.YticekgnmiaidjaaGreatDoorGlA
namespace Go.Proofs.YticekgnmiaidjaaGreatDoor
open Go.RowKit Go.Lib

def tidyG (gs : List Gd) : List Gd := gs.filter fun g => !neutB g
theorem tidy_next {gs : List Gd} {k : Nat} {g : Gd} (h : gs[k]? = some g) : tidyG (gs.take (k + 1)) = tidyG (gs.take k) ++ (if neutB g = true then [] else [g]) := by
  unfold tidyG
  rw [List.take_add_one, h, List.filter_append]
  cases hn : neutB g <;> simp [hn]
theorem tidy_len (gs : List Gd) : (tidyG gs).length ≤ gs.length := List.length_filter_le _ _
theorem right_len {g : Gd} (h : gradeErr g = 0) : ∀ c ∈ g.cvs, c.xs.length ≤ 1000000 ∧ c.ys.length ≤ 1000000 := fun c hc => by
  obtain ⟨h1, h2, _⟩ := (right_of h).cvs c hc
  omega
set_option maxRecDepth 100000 in
set_option maxHeartbeats 8000000 in
theorem grade_Tidy (v : Value) (gs : List Gd) (W : World) (h : SlG W v gs) : Calls Tryz.prog 8 #[v] W fun e w' =>
    ((gradesErr gs ≠ 0 ∧ e = .returned (.tuple #[.slice none 0 0, .int .i64 (gradesErr gs)])) ∨ (gradesErr gs = 0 ∧ ∃ v' Cs, e = .returned (.tuple #[v', .int .i64 0]) ∧ OwnGr W.heap.size w' v' Cs (tidyG gs))) ∧ Below W.heap.size W w' := by
  have HS0 := Lib.hid h
  obtain ⟨a, c, rfl, _, _, hrow⟩ := h
  obtain ⟨n, hn⟩ : ∃ n, gs.length = n := ⟨_, rfl⟩
  rw [hn] at HS0
  have HR := Lib.hid (And.intro hrow hn)
  rw [hn]
  clear hrow hn
  obtain ⟨er, her⟩ : ∃ er, gradesErr gs = er := ⟨_, rfl⟩
  have HE := Lib.hid her
  rw [her]
  clear her
  go_enter Tryz.func8, Tryz.ntmps8
  go_wp2_with fail
  refine (grade_checkAll _ gs W (by rw [← HR.out.2] at HS0 ⊢; exact HS0.out)).mono ?_
  rintro e w1 ⟨rfl, hb1⟩
  rw [HE.out]
  by_cases h0 : er = 0
  · subst h0
    have hz := HE.out
    have h64 : n ≤ 64 ∧ ∀ g ∈ gs, gradeErr g = 0 := by
      unfold gradesErr at hz
      rw [HR.out.2] at hz
      by_cases h : 64 < n
      · rw [if_pos h] at hz; cases hz
      · rw [if_neg h] at hz
        exact ⟨by omega, firstErr_zero hz⟩
    have H0 := Lib.hid h64
    have hn64 := h64.1
    have HB1 := Lib.hid hb1
    clear hz h64 hb1
    go_wp2_with fail
    go_loopw [5, 17] (fun s5 i wr => ∃ (k : Nat) (Cs : List (Array Value)), k ≤ n ∧ i = .int .i64 k ∧ Hid (OwnGr W.heap.size wr s5 Cs (tidyG (gs.take k)) ∧ Below W.heap.size W wr)) (fun _ i _ => n - (RowKit.intOf i).toNat)
    case atStart => exact ⟨0, [], Nat.zero_le _, rfl, Lib.hid ⟨OwnGr.nil _ _, HB1.out⟩⟩
    case round =>
      obtain ⟨k, Cs, hk, rfl, HB⟩ := hrel
      by_cases hlt : k < n
      · obtain ⟨g, hg⟩ : ∃ g, gs[k]? = some g := ⟨_, List.getElem?_eq_getElem (by have := HR.out.2; omega)⟩
        obtain ⟨b, o, ha, hbl, hG⟩ : ∃ b o, a = some ⟨b, o, none⟩ ∧ b < W.heap.size ∧ GlAt W b o gs := by
          rcases HR.out.1 with h0 | h0
          · rw [h0] at hg; simp at hg
          · exact h0
        subst ha
        obtain ⟨C, hC, hcl⟩ := hG k g hg
        have hcl' : ∀ (j : Nat) (v : Value), C[j]? = some v → wr.cell? ⟨b, o + k * 49 + j, none⟩ = some v := fun j v hj => by
          rw [HB.out.2.cell (p := ⟨b, o + k * 49 + j, none⟩) hbl]; exact hcl j v hj
        have hsz : (Tryz.prog.info? 46).map (·.size) = some C.size := by rw [hC.size]; exact grade_size
        have hst := fun w => grade_store w hC.size hC.one
        have hcs := hC.size
        have hge := H0.out.2 g (List.mem_of_getElem? hg)
        have HS := Lib.hid (And.intro hC (And.intro hcl' (And.intro hsz (And.intro hg (And.intro hbl hge)))))
        have hd1 : decide ((k : Int) < (n : Int)) = true := decide_eq_true (by omega)
        clear hC hcl hcl' hsz hg hG hbl hge
        go_upto_region 7 with fail
        go_upto_region 8 with (refine wpList_load_cells rfl 46 (.tmp 19) rfl b (o + k * 49) rfl C HS.out.2.1 _ Tryz.underlying46 rfl HS.out.2.2.1 ?_)
        clear hst hcs
        refine name_world ?_
        intro W1 hW1
        have X5 : Hid (Bx W1 wr.heap.size 46 C) := Lib.hid (by rw [hW1]; exact Bx.new wr 46 C)
        have B1 : Hid (Below W.heap.size W W1) := Lib.hid (by rw [hW1]; exact bnew (ob := .cells C 46) HB.out.2)
        have GA := Lib.hid (GdAt.keep HS.out.1 B1.out)
        have HO1 : Hid (OwnGr W.heap.size W1 u5 Cs (tidyG (gs.take k))) := Lib.hid (by rw [hW1]; exact HB.out.1.alloc _)
        have hp := HB.out.2.size
        obtain ⟨p5, hp5⟩ : ∃ p, wr.heap.size = p := ⟨_, rfl⟩
        rw [hp5] at X5 hp ⊢
        clear hW1 hp5
        go_wp2_with (refine wpList_load_cells rfl 46 (.tmp 7) rfl p5 0 rfl C (fun j v hj => by rw [X5.out.all.1, Nat.zero_add]; exact hj) _ Tryz.underlying46 rfl HS.out.2.2.1 ?_)
        refine (grade_Neutral C g _ GA.out HS.out.2.2.2.2.2).mono ?_
        rintro e w2 ⟨rfl, hb2⟩
        have B2 := Lib.hid (bcall B1.out hb2)
        have X6 := Lib.hid (X5.out.keep hb2)
        have GA2 := Lib.hid (GA.out.keep hb2)
        have HO2 := Lib.hid (HO1.out.keep hb2)
        clear hb2
        obtain ⟨nb, hnb⟩ : ∃ nb, neutB g = nb := ⟨_, rfl⟩
        have HN := Lib.hid hnb
        rw [hnb]
        clear hnb
        cases nb
        · go_wp2_with (refine wpList_load_cells rfl 46 (.tmp 7) rfl p5 0 rfl C (fun j v hj => by rw [X6.out.all.1, Nat.zero_add]; exact hj) _ Tryz.underlying46 rfl HS.out.2.2.1 ?_)
          refine (grade_cloned C g _ GA2.out (right_len HS.out.2.2.2.2.2)).mono ?_
          rintro e w3 ⟨C', rfl, hG3, hC3, hb3⟩
          have B3 := Lib.hid (bcall B2.out hb3)
          have HO3 := Lib.hid (HO2.out.keep hb3)
          have GA3 := Lib.hid (And.intro hG3 (CS.cvok (B := W.heap.size) hC3))
          clear hb3 hG3 hC3
          go_wp2_with (first | (refine wpList_build_gr rfl (.tmp 30) rfl rfl GA3.out.1.size ?_) | (at_builtin; refine wpList_append_gr rfl _ _ rfl rfl (HO3.out.alloc _) w3.heap.size C' g rfl (Bx.new w3 _ C') (GA3.out.1.keep (bnew (Below.refl _ _))) (GA3.out.2.alloc _) (Nat.le_trans (tidy_len _) (by rw [List.length_take]; omega)) (Nat.le_trans B3.out.size (alloc_le _ _)) ?_; intro v5 w5 ho5 hg5))
          have B5 : Hid (Below W.heap.size W w5) := Lib.hid (((B3.out).alloc B3.out.size _).grown hg5 (Nat.le_trans B3.out.size (alloc_le _ _)) (fun q hq => HO3.out.base q hq))
          have HO5 := Lib.hid ho5
          clear ho5 hg5
          go_wp2_with fail
          go_roundw
          case rel =>
            refine ⟨k + 1, Cs ++ [C'], by omega, by go_num, Lib.hid ⟨?_, B5.out⟩⟩
            rw [tidy_next HS.out.2.2.2.1, HN.out]
            exact HO5.out
          case measure => simp [RowKit.intOf]; omega
        · go_wp2_with fail
          go_roundw
          case rel =>
            refine ⟨k + 1, Cs, by omega, by go_num, Lib.hid ⟨?_, B2.out⟩⟩
            rw [tidy_next HS.out.2.2.2.1, HN.out, if_pos rfl, List.append_nil]
            exact HO2.out
          case measure => simp [RowKit.intOf]; omega
      · obtain rfl : k = n := by omega
        go_wp2_with fail
        go_ret2
        refine ⟨⟨u5, rfl, Cs, ?_⟩, HB.out.2⟩
        have := HB.out.1
        rw [show gs.take k = gs by rw [← HR.out.2, List.take_length]] at this
        exact this
  · have hne : (er == 0) = false := beq_eq_false_iff_ne.2 h0
    have HB1 := Lib.hid hb1
    clear hb1
    go_wp2_with fail
    go_ret2
    exact ⟨.inl ⟨h0, rfl⟩, HB1.out⟩
end Go.Proofs.YticekgnmiaidjaaGreatDoor
