/- dyelaw1.FramesPrint: every frame. -/
import Derived.Test.YtckadkobgmnoeaaDoorFpG
import Derived.Test.YtckadkobgmnoeaaDoorPrE
import Derived.Test.YtckadkobgmnoeaaDoorFit
import Derived.Test.YtckadkobgmnoeaaDoorCln
import Derived.Test.YtckadkobgmnoeaaDoorSame
namespace Go.Proofs.YtckadkobgmnoeaaDoor
open Go.RowKit

theorem OutV.rd {B : Nat} {w : World} {v : Value} {xs : List Nat} (h : OutV B w 39 v (xs.map fun b => .float .f32 b)) (hx : xs ≠ []) : ∃ g c, v = .slice (some ⟨g, 0, none⟩) xs.length c ∧ Rd w g 0 xs := by
  rcases h.cells with ⟨h0, _⟩ | ⟨g, c, rfl, _, h2, hc⟩
  · exact absurd (List.map_eq_nil_iff.1 h0) hx
  · refine ⟨g, c, by rw [List.length_map], h2, fun k hk => ?_⟩
    rw [Nat.zero_add]
    refine hc k trivial _ ?_
    rw [List.getElem?_map, List.getElem?_eq_getElem hk, List.getD_eq_getElem?_getD, List.getElem?_eq_getElem hk]; rfl
theorem canon_lt {b : Nat} (h : b < 4294967296) : canon b < 4294967296 := by
  unfold canon
  split
  · decide
  · exact h
theorem getD_lt {xs : List Nat} (h : ∀ b ∈ xs, b < 4294967296) (k : Nat) : xs.getD k 0 < 4294967296 := by
  rw [List.getD_eq_getElem?_getD]
  cases hk : xs[k]? with
  | none => decide
  | some b => exact h b (List.mem_of_getElem? hk)
theorem fitV_lt {xs : List Nat} (h : ∀ b ∈ xs, b < 4294967296) (N : Nat) : ∀ b ∈ fitV xs N, b < 4294967296 := by
  intro b hb
  unfold fitV at hb
  obtain ⟨j, _, rfl⟩ := List.mem_map.1 hb
  exact getD_lt h _
theorem head_len (x y w h : Int) (hx : -1000 ≤ x ∧ x ≤ 1000) (hy : -1000 ≤ y ∧ y ≤ 1000) (hw : 0 ≤ w ∧ w ≤ 1000) (hh : 0 ≤ h ∧ h ≤ 1000) : (headT x y w h).length ≤ 1000 := by
  have h1 := Lib.itoa_length_le x (by omega) (by omega)
  have h2 := Lib.itoa_length_le y (by omega) (by omega)
  have h3 := Lib.itoa_length_le w (by omega) (by omega)
  have h4 := Lib.itoa_length_le h (by omega) (by omega)
  have e1 : frameB.data.toList.length = 5 := rfl
  unfold headT
  simp only [List.length_append, List.length_cons, List.length_nil, e1]
  omega
/-- What is printed is read. -/
theorem print_read (x y : Int) (wn hn N : Nat) (ys : List Nat) (hx : -1000 ≤ x ∧ x ≤ 1000) (hy : -1000 ≤ y ∧ y ≤ 1000) (hw1 : 1 ≤ wn) (hw8 : wn ≤ 8) (hh1 : 1 ≤ hn) (hh8 : hn ≤ 8) (hN : N = 4 * (wn * hn)) (hcn : ∀ k, canon (ys.getD k 0) < 4294967296) :
    parseR (ofL (headT x y (wn : Int) (hn : Int) ++ [10] ++ textTo (fun k => canon (ys.getD k 0)) wn N)) = ⟨x, y, (wn : Int), (hn : Int), madeL (fun p k => ys.getD (4 * p + k) 0) N, 0, 0⟩ := by
  obtain ⟨n, rfl⟩ : ∃ n, wn = n + 1 := ⟨wn - 1, by omega⟩
  have hN8 : N ≤ 256 := by
    have := Nat.mul_le_mul hw8 hh8
    omega
  have hl := head_len x y ((n + 1 : Nat) : Int) (hn : Int) hx hy (by omega) (by omega)
  have ht := textTo_len (fun k => canon (ys.getD k 0)) (n + 1) N
  have hg : GoodF (fun k => canon (ys.getD k 0)) := fun k => ⟨hcn k, canon_idem _⟩
  rw [hN] at ht ⊢
  rw [text_all] at ht ⊢
  rw [print_back hg x y n hn hx hy hw8 hh1 hh8 (by rw [List.length_append, List.length_append]; simp only [List.length_cons, List.length_nil]; omega)]
  congr 1
  unfold madeL
  rw [Nat.mul_assoc]
  apply List.map_congr_left
  intro k _
  simp only
  rw [Nat.div_add_mod]

set_option maxRecDepth 100000 in
set_option maxHeartbeats 8000000 in
theorem law_FramesPr (x y w h : Int) (v : Value) (xs : List Nat) (W : World) (E : Env W) (hT : Tab15 W) (hsl : Sl W v xs) (hb : ∀ b ∈ xs, b < 4294967296) :
    Calls Tryd.prog 3 #[.agg #[.int .i64 x, .int .i64 y, .int .i64 w, .int .i64 h, v]] W fun e w' => e = .returned (.bool true) ∧ Below W.heap.size W w' := by
  have hvc : v.cells = #[v] := by rcases hsl with ⟨b, o, c, rfl, _⟩ | ⟨_, a, c, rfl⟩ <;> rfl
  go_enter Tryd.func3, Tryd.ntmps3
  go_upto_region 1 with fail
  refine name_world ?_
  intro w1 hw1
  obtain ⟨g1, hg1⟩ : ∃ g, g = W.heap.size := ⟨_, rfl⟩
  have x1 : Bx w1 g1 26 #[.int .i64 x, .int .i64 y, .int .i64 w, .int .i64 h, v] := by rw [hw1, hg1]; exact Bx.new _ _ _
  have B1 : Below W.heap.size W w1 := by rw [hw1]; exact bnew (Below.refl _ _)
  rw [← hg1]
  have hWg : W.heap.size ≤ g1 := Nat.le_of_eq hg1.symm
  clear hw1 hg1
  replace hsl := hsl.keep B1
  have hgl1 := x1.lt
  obtain ⟨q1, f1, l1⟩ := x1.all
  go_wp2_with (go_at_call 4; refine (law_landed _).mono ?_; rintro e w' ⟨rfl, rfl⟩)
  refine (law_fit _ _ _ _ _ xs _ hsl).mono ?_
  rintro e w2 ⟨g2, N, hN, rfl, hg2, row2, B2⟩
  replace x1 := x1.keep B2
  replace B1 := B1.trans (B2.mono B1.size)
  have sd1 := fitSide_bd w
  have sd2 := fitSide_bd h
  have sp1 := fitPlace_bd x
  have sp2 := fitPlace_bd y
  generalize fitPlace x = fx at *
  generalize fitPlace y = fy at *
  obtain ⟨wn, hwn⟩ : ∃ wn : Nat, fitSide w = (wn : Int) := ⟨(fitSide w).toNat, by omega⟩
  obtain ⟨hn, hhn⟩ : ∃ hn : Nat, fitSide h = (hn : Int) := ⟨(fitSide h).toNat, by omega⟩
  rw [hwn] at hN sd1 ⊢
  rw [hhn] at hN sd2 ⊢
  have hN2 : N = 4 * (wn * hn) := by
    rw [Int.mul_assoc] at hN
    exact_mod_cast hN
  have hcn : ∀ k, canon ((fitV xs N).getD k 0) < 4294967296 := fun k => canon_lt (getD_lt (fitV_lt hb N) k)
  have hread := print_read fx fy wn hn N (fitV xs N) sp1 sp2 (by omega) (by omega) (by omega) (by omega) hN2 hcn
  have hyl := fitV_len xs N
  generalize fitV xs N = ys at *
  have HN2 := Lib.hid hN2
  have HCN := Lib.hid hcn
  have HYL := Lib.hid hyl
  have hN8 : N ≤ 256 := by
    have := Nat.mul_le_mul (show wn ≤ 8 by omega) (show hn ≤ 8 by omega)
    omega
  have hN1 : 4 ≤ N := by
    have := Nat.mul_le_mul (show 1 ≤ wn by omega) (show 1 ≤ hn by omega)
    omega
  obtain ⟨S, hS⟩ : ∃ S, ofL (headT fx fy (wn : Int) (hn : Int) ++ [10] ++ textTo (fun k => canon (ys.getD k 0)) wn N) = S := ⟨_, rfl⟩
  rw [hS] at hread
  have HS := Lib.hid hS
  have HR := Lib.hid hread
  obtain ⟨L, hL⟩ : ∃ L, madeL (fun p k => ys.getD (4 * p + k) 0) N = L := ⟨_, rfl⟩
  have hLl : L.length = N := by rw [← hL]; exact madeL_len _ _
  rw [hL] at HR
  have HL := Lib.hid hL
  clear hS hread hL hN hwn hhn hN2 hcn hyl hb hsl q1 f1 l1
  have hw1 : 1 ≤ wn := by omega
  have hw8 : wn ≤ 8 := by omega
  have hh1 : 1 ≤ hn := by omega
  have hh8 : hn ≤ 8 := by omega
  clear sd1 sd2
  obtain ⟨q1, f1, l1⟩ := x1.all
  obtain ⟨z1, on1⟩ := set5 x1 (.int .i64 fx) (.int .i64 fy) (.int .i64 (wn : Int)) (.int .i64 (hn : Int)) (.slice (some ⟨g2, 0, none⟩) N N)
  have hgl := x1.lt
  go_upto_region 4 with fail
  refine name_world ?_
  intro w3 hw3
  rw [← hw3] at z1 on1
  clear hw3 x1 q1 f1 l1
  have row3 := on1.row (by omega) row2
  have B3 := bonly B1 on1 (by omega)
  have rd3 := row3.rd
  clear on1 row2 row3 B1 B2
  obtain ⟨q1, f1, l1⟩ := z1.all
  go_wp2_with fail
  refine (frame_Print fx fy wn hn g2 0 N N ys _ (E.below B3) sp1 sp2 hw1 hw8 hh1 hh8 HN2.out HYL.out rd3 HCN.out).mono ?_
  rw [HS.out]
  rintro e w4 ⟨rfl, B4⟩
  replace z1 := z1.keep B4
  replace rd3 := rd3.keep B4
  replace B3 := B3.trans (B4.mono B3.size)
  clear B4 q1 f1 l1
  obtain ⟨q1, f1, l1⟩ := z1.all
  go_wp2_with fail
  refine (ref_Print fx fy wn hn g2 0 N N ys _ (E.below B3) (hT.below B3) sp1 sp2 hw1 hw8 hh1 hh8 HN2.out HYL.out rd3 HCN.out).mono ?_
  rw [HS.out]
  rintro e w5 ⟨rfl, hzb⟩
  replace z1 := z1.keep hzb
  replace rd3 := rd3.keep hzb
  replace B3 := B3.trans (hzb.mono B3.size)
  clear hzb q1 f1 l1
  obtain ⟨q1, f1, l1⟩ := z1.all
  go_wp2_with fail
  refine (frame_Parse S _ (E.below B3)).mono ?_
  rw [HR.out]
  rintro e w6 ⟨v1, rfl, o1, B4⟩
  simp only at o1
  have hne : L ≠ [] := by rintro rfl; simp at hLl; omega
  obtain ⟨g5, c5, rfl, rd5⟩ := o1.rd hne
  rw [hLl]
  simp only
  replace z1 := z1.keep B4
  replace rd3 := rd3.keep B4
  replace B3 := B3.trans (B4.mono B3.size)
  clear B4 q1 f1 l1 o1
  go_upto_region 8 with fail
  refine name_world ?_
  intro w7 hw7
  obtain ⟨g7, hg7⟩ : ∃ g, g = w6.heap.size := ⟨_, rfl⟩
  have z7 : Bx w7 g7 26 #[.int .i64 fx, .int .i64 fy, .int .i64 (wn : Int), .int .i64 (hn : Int), .slice (some ⟨g5, 0, none⟩) N c5] := by rw [hw7, hg7]; exact Bx.new _ _ _
  replace z1 : Bx w7 g1 26 #[.int .i64 fx, .int .i64 fy, .int .i64 (wn : Int), .int .i64 (hn : Int), .slice (some ⟨g2, 0, none⟩) N N] := by rw [hw7]; exact Bx.alloc z1 _
  replace rd3 : Rd w7 g2 0 ys := by rw [hw7]; exact rd3.keep below_al
  replace rd5 : Rd w7 g5 0 L := by rw [hw7]; exact rd5.keep below_al
  replace B3 : Below W.heap.size W w7 := by rw [hw7]; exact bnew B3
  rw [← hg7]
  clear hw7 hg7 HR HS HCN
  obtain ⟨q1, f1, l1⟩ := z1.all
  obtain ⟨q7, f7, l7⟩ := z7.all
  go_region_with (first
    | (go_at_call 10; refine (ref_Clean fx fy wn hn (wn * hn) g2 0 N N ys _ (by omega) (by omega) (by omega) (by omega) (by omega) (by omega) (by omega) (by omega) rfl (by have := HN2.out; omega) HN2.out (Nat.le_refl _) HYL.out ?_).mono ?_; exact rd3.keep ((Below.refl _ _).drew); rw [← HN2.out, HL.out]; rintro e w8 ⟨g8, c8, rfl, _, _, rd8, B8⟩; have y7 := (show Bx w7.drew _ _ _ from z7).keep B8; have rd6 := (show Rd w7.drew _ _ _ from rd5).keep B8; have B9 := bcall (B3.drew) B8; obtain ⟨r7, k7, m7⟩ := y7.all)
    | (go_at_call 9; refine (ref_SameFrame fx fy (wn : Int) (hn : Int) g5 0 c5 g8 0 c8 N L _ (by omega) hLl rd6 rd8).mono ?_; rintro e w9 ⟨rfl, B10⟩))
  all_goals
    go_wp2_with fail
    go_ret
    exact ⟨rfl, B9.trans (B10.mono B9.size)⟩
end Go.Proofs.YtckadkobgmnoeaaDoor
