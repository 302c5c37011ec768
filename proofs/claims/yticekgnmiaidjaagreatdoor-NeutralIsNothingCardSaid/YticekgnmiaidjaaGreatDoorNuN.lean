/- slices.EqualFunc with SameGrade, at two lists of the same grades. (printed by gen_nun.py) -/
import Derived.Test.YticekgnmiaidjaaGreatDoorNuE
import Derived.Test.YticekgnmiaidjaaGreatDoorGlS
import Derived.Test.YticekgnmiaidjaaGreatDoorGnK
namespace Go.Proofs.YticekgnmiaidjaaGreatDoor
open Go.RowKit Go.Lib

/-- A grade of a slice, at hand in a later world. -/
theorem SlG.row {W w : World} {v : Value} {gs : List Gd} (h : SlG W v gs) (hb : Below W.heap.size W w) {k : Nat} {g : Gd} (hg : gs[k]? = some g) : ∃ b o c C, v = .slice (some ⟨b, o, none⟩) gs.length c ∧ GdAt w C g ∧ ∀ (j : Nat) (u : Value), C[j]? = some u → w.cell? ⟨b, o + k * 49 + j, none⟩ = some u := by
  obtain ⟨a, c, rfl, _, _, h0 | ⟨b, o, rfl, hl, hG⟩⟩ := h
  · rw [h0] at hg; simp at hg
  · obtain ⟨C, hC, hc⟩ := hG k g hg
    exact ⟨b, o, c, C, rfl, hC.keep hb, fun j u hj => by rw [hb.cell (p := ⟨b, o + k * 49 + j, none⟩) hl]; exact hc j u hj⟩
set_option maxRecDepth 100000 in
set_option maxHeartbeats 8000000 in
theorem equal_gr (va vb : Value) (gs : List Gd) (W : World) (E : EnvF W) (hA : SlG W va gs) (hB : SlG W vb gs) (hok : ∀ g ∈ gs, GdOk g) (hn : gs.length ≤ 1000) :
    Calls Tryz.prog 14 #[va, vb, .func (.func 15) #[] #[]] W fun e w' => e = .returned (.bool true) ∧ Below W.heap.size W w' := by
  have HE := Lib.hid E
  have HA := Lib.hid hA
  have HB := Lib.hid hB
  have HO := Lib.hid hok
  obtain ⟨a1, c1, rfl, _⟩ := hA
  obtain ⟨a2, c2, rfl, _⟩ := hB
  obtain ⟨n, hnn⟩ : ∃ n, gs.length = n := ⟨_, rfl⟩
  have HN := Lib.hid hnn
  rw [hnn] at hn HA HB ⊢
  clear hnn E hok
  have hcf : ∀ (args : Array Value) (u : World), (callFunc 15 args).run Tryz.prog u = .ok (.enter 15 args) u := fun args u => enters Tryz.func15 (by kernel_rfl) (by kernel_rfl) _ _
  go_enter Tryz.func14, Tryz.ntmps14
  go_wp2_with fail
  go_loopw [17] (fun s wr => ∃ k : Nat, k ≤ n ∧ s = .int .i64 (k : Int) ∧ Hid (Below W.heap.size W wr)) (fun s _ => n - (RowKit.intOf s).toNat)
  case atStart => exact ⟨0, by omega, rfl, Lib.hid (Below.refl _ _)⟩
  case round =>
    obtain ⟨k, hk, rfl, HBl⟩ := hrel
    by_cases hlt : k < n
    · obtain ⟨g, hg⟩ : ∃ g, gs[k]? = some g := ⟨_, List.getElem?_eq_getElem (by have := HN.out; omega)⟩
      obtain ⟨b1, o1, d1, C1, e1, hG1, hc1⟩ := HA.out.row HBl.out hg
      obtain ⟨b2, o2, d2, C2, e2, hG2, hc2⟩ := HB.out.row HBl.out hg
      obtain ⟨rfl, rfl⟩ : a1 = some ⟨b1, o1, none⟩ ∧ c1 = d1 := by cases e1; exact ⟨rfl, rfl⟩
      obtain ⟨rfl, rfl⟩ : a2 = some ⟨b2, o2, none⟩ ∧ c2 = d2 := by cases e2; exact ⟨rfl, rfl⟩
      have hgo := HO.out g (List.mem_of_getElem? hg)
      have hz1 : (Tryz.prog.info? 46).map (·.size) = some C1.size := by rw [hG1.size]; exact grade_size
      have hz2 : (Tryz.prog.info? 46).map (·.size) = some C2.size := by rw [hG2.size]; exact grade_size
      have hst1 := fun w => grade_store w hG1.size hG1.one
      have hst2 := fun w => grade_store w hG2.size hG2.one
      have hcs1 := hG1.size
      have hcs2 := hG2.size
      have HS := Lib.hid (And.intro hG1 (And.intro hG2 (And.intro hc1 (And.intro hc2 (And.intro hz1 (And.intro hz2 hgo))))))
      have hd1 : decide ((k : Int) < (n : Int)) = true := decide_eq_true (by omega)
      clear e1 e2 hG1 hG2 hc1 hc2 hz1 hz2 hgo hg
      go_upto_region 5 with fail
      go_upto_region 6 with (refine wpList_load_cells rfl 46 (.tmp 20) rfl b1 (o1 + k * 49) rfl C1 HS.out.2.2.1 _ Tryz.underlying46 rfl HS.out.2.2.2.2.1 ?_)
      clear hst1 hcs1
      refine name_world ?_
      intro W1 hW1
      have X1 : Hid (Bx W1 wr.heap.size 46 C1) := Lib.hid (by rw [hW1]; exact Bx.new wr 46 C1)
      have B1 : Hid (Below wr.heap.size wr W1) := Lib.hid (by rw [hW1]; exact bnew (ob := .cells C1 46) (Below.refl _ _))
      obtain ⟨p1, hp1⟩ : ∃ p, wr.heap.size = p := ⟨_, rfl⟩
      rw [hp1] at X1 ⊢
      clear hW1 hp1
      have hc2' : ∀ (j : Nat) (u : Value), C2[j]? = some u → W1.cell? ⟨b2, o2 + k * 49 + j, none⟩ = some u := fun j u hj => cell_belowF B1.out (HS.out.2.2.2.1 j u hj)
      have HC2 := Lib.hid hc2'
      clear hc2'
      go_upto_region 7 with (refine wpList_load_cells rfl 46 (.tmp 24) rfl b2 (o2 + k * 49) rfl C2 HC2.out _ Tryz.underlying46 rfl HS.out.2.2.2.2.2.1 ?_)
      clear hst2 hcs2
      refine name_world ?_
      intro W2 hW2
      have X2 : Hid (Bx W2 W1.heap.size 46 C2) := Lib.hid (by rw [hW2]; exact Bx.new W1 46 C2)
      have B2 : Hid (Below wr.heap.size wr W2) := Lib.hid (by rw [hW2]; exact bnew (ob := .cells C2 46) B1.out)
      have X1b : Hid (Bx W2 p1 46 C1) := Lib.hid (by rw [hW2]; exact X1.out.alloc _)
      obtain ⟨p2, hp2⟩ : ∃ p, W1.heap.size = p := ⟨_, rfl⟩
      rw [hp2] at X2 ⊢
      clear hW2 hp2
      go_wp2_with (first | (refine wpList_load_cells rfl 46 (.tmp 8) rfl p1 0 rfl C1 (fun j v hj => by rw [X1b.out.all.1, Nat.zero_add]; exact hj) _ Tryz.underlying46 rfl HS.out.2.2.2.2.1 ?_) | (refine wpList_load_cells rfl 46 (.tmp 9) rfl p2 0 rfl C2 (fun j v hj => by rw [X2.out.all.1, Nat.zero_add]; exact hj) _ Tryz.underlying46 rfl HS.out.2.2.2.2.2.1 ?_))
      refine (ref_SameGrade C1 C2 g g _ (EnvF.below HE.out (HBl.out.trans (B2.out.mono HBl.out.size))) (HS.out.1.keep B2.out) (HS.out.2.1.keep B2.out) HS.out.2.2.2.2.2.2 HS.out.2.2.2.2.2.2).mono ?_
      rintro e w5 ⟨rfl, hb5⟩
      rw [sameG_refl]
      have HB5 : Hid (Below W.heap.size W w5) := Lib.hid (bcall (HBl.out.trans (B2.out.mono HBl.out.size)) hb5)
      clear hb5
      go_wp2_with fail
      go_roundw
      case rel => exact ⟨k + 1, by omega, by go_num, HB5⟩
      case measure => simp [RowKit.intOf]; omega
    · obtain rfl : k = n := by omega
      go_wp2_with fail
      go_ret
      exact ⟨rfl, HBl.out⟩
end Go.Proofs.YticekgnmiaidjaaGreatDoor
