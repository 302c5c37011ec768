/- key.Moved of a polygon. (printed by gen_wnh.py) -/
import Derived.Test.YtfkiljhjiogdlaaWnH
namespace Go.Proofs.Ytfkiljhjiogdlaa
open Go.RowKit

set_option maxRecDepth 100000 in
set_option maxHeartbeats 8000000 in
theorem key_Moved_poly (kind : Int) (X Y Wd H S : Nat) (pa : Option Addr) (n c : Nat) (ps : List (Int × Int)) (out : Bool) (dx dy : Int) (W : World) (hs : SlP W (.slice pa n c) ps) (E : Int) (hE : winErr 3 X Y Wd H S ps = 0) (hk : kind = 3) (hp1 : plB dx = true) (hp2 : plB dy = true) (qs : List (Int × Int)) (hq : qs = ps.map (mov dx dy)) (XX YY : Nat) (hX : X = XX) (hY : Y = YY) (hE2 : winErr kind XX YY Wd H S qs = E) : Calls Try.prog 8 #[.agg #[.int .i64 kind, .float .f32 X, .float .f32 Y, .float .f32 Wd, .float .f32 H, .float .f32 S, .slice pa n c, .bool out], .int .i64 dx, .int .i64 dy] W (MovR kind XX YY Wd H S qs out E W.heap.size W) := by
  subst hk
  subst hX
  subst hY
  obtain ⟨_, _, _, _, _, _, _, hn, hbd⟩ := win_ok hE
  have hne : ps ≠ [] := by rcases win_len hE with ⟨_, h, _⟩ | ⟨h, _⟩; intro h'; rw [h'] at h; simp at h; exact absurd rfl h
  have hd1 := plB_iff.1 hp1
  have hd2 := plB_iff.1 hp2
  have k4 : ((3 : Int) != 3) = false := by decide
  have HW : Hid (∀ w, SlP w (.slice pa n c) ps → Calls Try.prog 26 #[.agg #[.int .i64 3, .float .f32 X, .float .f32 Y, .float .f32 Wd, .float .f32 H, .float .f32 S, .slice pa n c, .bool out]] w fun e w' => e = .returned (.int .i64 0) ∧ Below w.heap.size w w') := Lib.hid fun w h => by rw [← hE]; exact key_CheckWindow 3 X Y Wd H S _ ps out w h
  have HS := Lib.hid hs
  have HW2 : Hid (∀ pv w, SlP w pv qs → Calls Try.prog 26 #[.agg #[.int .i64 3, .float .f32 X, .float .f32 Y, .float .f32 Wd, .float .f32 H, .float .f32 S, pv, .bool out]] w fun e w' => e = .returned (.int .i64 E) ∧ Below w.heap.size w w') := Lib.hid fun pv w h => by rw [← hE2]; exact key_CheckWindow 3 X Y Wd H S _ qs out w h
  have HC : Hid (∀ w, SlP w (.slice pa n c) ps → Calls Try.prog 30 #[.agg #[.int .i64 3, .float .f32 X, .float .f32 Y, .float .f32 Wd, .float .f32 H, .float .f32 S, .slice pa n c, .bool out]] w fun e w' => ∃ v', e = .returned (.agg #[.int .i64 3, .float .f32 X, .float .f32 Y, .float .f32 Wd, .float .f32 H, .float .f32 S, v', .bool out]) ∧ CopyP w' w.heap.size v' ps ∧ Below w.heap.size w w') := Lib.hid fun w h => key_cloned 3 X Y Wd H S _ ps out w (by omega) h
  have HP := fun w => key_placed dx w
  have HQ := fun w => key_placed dy w
  rw [hp1] at HP
  rw [hp2] at HQ
  have HQ2 := Lib.hid hq
  have Hne := Lib.hid hne
  have Hbd := Lib.hid hbd
  obtain ⟨n', hnn⟩ : ∃ n', n' = ps.length := ⟨_, rfl⟩
  have Hn := Lib.hid hnn
  have hn32 : n' ≤ 32 := by omega
  have hnq : Hid (qs.length = n') := Lib.hid (by rw [hq, List.length_map, hnn])
  clear hs hE hE2 hp1 hp2 hbd hnn hn hq hne
  go_enter Try.func8, Try.ntmps8
  go_upto_region 1 with fail
  refine name_world ?_
  intro w0 hw0
  have x3 : Bx w0 W.heap.size 25 #[.int .i64 3, .float .f32 X, .float .f32 Y, .float .f32 Wd, .float .f32 H, .float .f32 S, .slice pa n c, .bool out] := by rw [hw0]; exact (Bx.new _ _ _).alloc _
  have x6 : Bx w0 (W.heap.size + 1) 25 #[.int .i64 0, .float .f32 0, .float .f32 0, .float .f32 0, .float .f32 0, .float .f32 0, .slice none 0 0, .bool false] := by rw [hw0]; exact Bx.at _ (by simp)
  have B : Below W.heap.size W w0 := by rw [hw0]; exact bnew (bnew (Below.refl _ W))
  clear hw0
  obtain ⟨q3, f3, l3⟩ := x3.all
  obtain ⟨q6, f6, l6⟩ := x6.all
  go_wp2_with fail
  refine (HW.out _ (HS.out.keep B)).mono ?_
  rintro e w1 ⟨rfl, hb⟩
  replace x3 := x3.keep hb
  replace x6 := x6.keep hb
  replace B := bcall B hb
  clear hb q3 f3 l3 q6 f6 l6
  obtain ⟨q3, f3, l3⟩ := x3.all
  obtain ⟨q6, f6, l6⟩ := x6.all
  go_wp2_with fail
  refine (HP _).mono ?_
  rintro e w2 ⟨rfl, rfl⟩
  go_wp2_with fail
  refine (HQ _).mono ?_
  rintro e w2 ⟨rfl, rfl⟩
  go_wp2_with fail
  refine (HC.out _ (HS.out.keep B)).mono ?_
  rintro e w2 ⟨v', rfl, hcp, hb⟩
  replace hcp := hcp.mono (show W.heap.size + 2 ≤ w1.heap.size by omega)
  rcases hcp with ⟨h0, _⟩ | ⟨_, g, cc, cs, rfl, hg, hx, hcc, hH⟩
  · exact absurd h0 Hne.out
  rw [← Hn.out]
  have hM := HoldsM.start (dx := dx) (dy := dy) hH
  have HM := Lib.hid hM
  unfold maxLen at hcc
  clear hM hH
  replace x3 := x3.keep hb
  replace x6 := x6.keep hb
  replace B := bcall B hb
  clear hb q3 f3 l3 q6 f6 l6
  obtain ⟨q3, f3, l3⟩ := x3.all
  obtain ⟨q6, f6, l6⟩ := x6.all
  go_upto_region 7 with fail
  refine name_world ?_
  intro w3 hw3
  replace x3 : Bx w3 W.heap.size 25 #[.int .i64 3, .float .f32 X, .float .f32 Y, .float .f32 Wd, .float .f32 H, .float .f32 S, .slice (some ⟨g, 0, none⟩) n' cc, .bool out] := by rw [hw3]; exact (Bx.set (Bx.set (Bx.set (Bx.set (Bx.set (Bx.set (Bx.set (Bx.set x3 0 _) 1 _) 2 _) 3 _) 4 _) 5 _) 6 _) 7 _)
  replace x6 : Bx w3 (W.heap.size + 1) 25 #[.int .i64 0, .float .f32 0, .float .f32 0, .float .f32 0, .float .f32 0, .float .f32 0, .slice none 0 0, .bool false] := by rw [hw3]; exact (Bx.other (Bx.other (Bx.other (Bx.other (Bx.other (Bx.other (Bx.other (Bx.other x6 _ _ (by first | omega | (simp; done) | (simp; omega))) _ _ (by first | omega | (simp; done) | (simp; omega))) _ _ (by first | omega | (simp; done) | (simp; omega))) _ _ (by first | omega | (simp; done) | (simp; omega))) _ _ (by first | omega | (simp; done) | (simp; omega))) _ _ (by first | omega | (simp; done) | (simp; omega))) _ _ (by first | omega | (simp; done) | (simp; omega))) _ _ (by first | omega | (simp; done) | (simp; omega)))
  replace hx : Bx w3 g 71 cs := by rw [hw3]; exact (Bx.other (Bx.other (Bx.other (Bx.other (Bx.other (Bx.other (Bx.other (Bx.other hx _ _ (by first | omega | (simp; done) | (simp; omega))) _ _ (by first | omega | (simp; done) | (simp; omega))) _ _ (by first | omega | (simp; done) | (simp; omega))) _ _ (by first | omega | (simp; done) | (simp; omega))) _ _ (by first | omega | (simp; done) | (simp; omega))) _ _ (by first | omega | (simp; done) | (simp; omega))) _ _ (by first | omega | (simp; done) | (simp; omega))) _ _ (by first | omega | (simp; done) | (simp; omega)))
  replace B : Below W.heap.size W w3 := by rw [hw3]; exact bput (by omega) (bput (by omega) (bput (by omega) (bput (by omega) (bput (by omega) (bput (by omega) (bput (by omega) (bput (by omega) (B))))))))
  clear hw3 q3 f3 l3 q6 f6 l6
  obtain ⟨q3, f3, l3⟩ := x3.all
  obtain ⟨q6, f6, l6⟩ := x6.all
  go_upto_region 11 with fail
  go_loopw [46] (fun i wr => ∃ k cs, k ≤ n' ∧ i = .int .i64 ((k : Nat) : Int) ∧ Bx wr g 71 cs ∧ Hid (HoldsM cs ps dx dy k) ∧ Bx wr W.heap.size 25 #[.int .i64 3, .float .f32 X, .float .f32 Y, .float .f32 Wd, .float .f32 H, .float .f32 S, .slice (some ⟨g, 0, none⟩) n' cc, .bool out] ∧ Bx wr (W.heap.size + 1) 25 #[.int .i64 0, .float .f32 0, .float .f32 0, .float .f32 0, .float .f32 0, .float .f32 0, .slice none 0 0, .bool false] ∧ Below W.heap.size W wr) (fun i _ => n' - (intOf i).toNat)
  case atStart => exact ⟨0, cs, by omega, rfl, hx, HM, x3, x6, B⟩
  case round =>
    clear hx HM x3 x6 B q3 f3 l3 q6 f6 l6 cs
    obtain ⟨k, cs, hk, rfl, hx, HM, x3, x6, B⟩ := hrel
    obtain ⟨q3, f3, l3⟩ := x3.all
    obtain ⟨q6, f6, l6⟩ := x6.all
    obtain ⟨qg, fg, lg⟩ := hx.all
    by_cases hlt : k < n'
    · obtain ⟨z1, z2⟩ := HM.out k (by rw [← Hn.out]; exact hlt)
      have hst := HM.out.step (by rw [← Hn.out]; exact hlt)
      obtain ⟨p1, p2, p3, p4⟩ := Hbd.out k (by rw [← Hn.out]; exact hlt)
      rw [if_neg (by omega)] at z1 z2
      rw [Int.add_zero] at z1 z2
      have HS2 := Lib.hid hst
      clear hst HM
      generalize (ps.getD k default).1 = px at *
      generalize (ps.getD k default).2 = py at *
      have e1 : wr.cell? ⟨g, k * 2, none⟩ = _ := (qg _).trans z1
      have e2 : wr.cell? ⟨g, k * 2 + 1, none⟩ = _ := (qg _).trans z2
      have fe1 := fg (k * 2)
      go_upto_region 14 with fail
      refine name_world ?_
      intro w4 hw4
      have x3' : Bx w4 W.heap.size 25 #[.int .i64 3, .float .f32 X, .float .f32 Y, .float .f32 Wd, .float .f32 H, .float .f32 S, .slice (some ⟨g, 0, none⟩) n' cc, .bool out] := by rw [hw4]; exact (Bx.other x3 _ _ (by first | omega | (simp; done) | (simp; omega)))
      have x6' : Bx w4 (W.heap.size + 1) 25 #[.int .i64 0, .float .f32 0, .float .f32 0, .float .f32 0, .float .f32 0, .float .f32 0, .slice none 0 0, .bool false] := by rw [hw4]; exact (Bx.other x6 _ _ (by first | omega | (simp; done) | (simp; omega)))
      have hx' := Bx.set hx (k * 2) (.int .i64 (px + dx))
      have e2' : w4.cell? ⟨g, k * 2 + 1, none⟩ = some (.int .i64 py) := by rw [hw4, hx'.all.1, Array.getElem?_setIfInBounds, if_neg (by omega)]; exact z2
      rw [← hw4] at hx'
      have B' : Below W.heap.size W w4 := by rw [hw4]; exact bput (by omega) (B)
      clear hw4 q3 f3 l3 q6 f6 l6 qg fg lg e1 e2 fe1 x3 x6 hx B
      obtain ⟨q3, f3, l3⟩ := x3'.all
      obtain ⟨q6, f6, l6⟩ := x6'.all
      obtain ⟨qg, fg, lg⟩ := hx'.all
      have fe2 := fg (k * 2 + 1)
      go_wp2_with fail
      go_roundw
      case rel => exact ⟨k + 1, _, by omega, by go_num, Bx.set hx' (k * 2 + 1) (.int .i64 (py + dy)), HS2, (Bx.other x3' _ _ (by first | omega | (simp; done) | (simp; omega))), (Bx.other x6' _ _ (by first | omega | (simp; done) | (simp; omega))), bput (by omega) (B')⟩
      case measure => simp [intOf]; omega
    · obtain rfl : k = n' := by omega
      have hf : Hid (HoldsP cs qs) := Lib.hid (by rw [HQ2.out]; exact HoldsM.full (by rw [← Hn.out]; exact HM.out))
      clear HM
      go_wp2_with fail
      refine (HW2.out _ _ (by rw [← hnq.out]; exact hf.out.slP hx (by rw [hnq.out]; unfold maxLen; omega) cc)).mono ?_
      rintro e w5 ⟨rfl, hb⟩
      replace hx := hx.keep hb
      replace x3 := x3.keep hb
      replace x6 := x6.keep hb
      replace B := bcall B hb
      clear hb q3 f3 l3 q6 f6 l6
      obtain ⟨q3, f3, l3⟩ := x3.all
      obtain ⟨q6, f6, l6⟩ := x6.all
      by_cases h9 : E = 0
      · subst h9
        go_wp2_with fail
        refine bodyPost_ret (v := .tuple #[.agg #[.int .i64 3, .float .f32 X, .float .f32 Y, .float .f32 Wd, .float .f32 H, .float .f32 S, .slice (some ⟨g, 0, none⟩) k cc, .bool out], .int .i64 0]) (by simp [results, Try.results8, go_sem, q6]) rfl ⟨.inr ⟨rfl, _, cc, by rw [hnq.out], hf.out.slP (Bx.other (Bx.other (Bx.other (Bx.other (Bx.other (Bx.other (Bx.other (Bx.other hx _ _ (by first | omega | (simp; done) | (simp; omega))) _ _ (by first | omega | (simp; done) | (simp; omega))) _ _ (by first | omega | (simp; done) | (simp; omega))) _ _ (by first | omega | (simp; done) | (simp; omega))) _ _ (by first | omega | (simp; done) | (simp; omega))) _ _ (by first | omega | (simp; done) | (simp; omega))) _ _ (by first | omega | (simp; done) | (simp; omega))) _ _ (by first | omega | (simp; done) | (simp; omega))) (by rw [hnq.out]; unfold maxLen; omega) cc⟩, ?_⟩
        exact bput (by omega) (bput (by omega) (bput (by omega) (bput (by omega) (bput (by omega) (bput (by omega) (bput (by omega) (bput (by omega) (B))))))))
      · have e9 : (E != 0) = true := by simpa using h9
        go_wp2_with fail
        refine bodyPost_ret (v := .tuple #[.agg #[.int .i64 0, .float .f32 0, .float .f32 0, .float .f32 0, .float .f32 0, .float .f32 0, .slice none 0 0, .bool false], .int .i64 E]) (by simp [results, Try.results8, go_sem, q6]) rfl ⟨.inl ⟨h9, rfl⟩, ?_⟩
        exact bput (by omega) (bput (by omega) (bput (by omega) (bput (by omega) (bput (by omega) (bput (by omega) (bput (by omega) (bput (by omega) (B))))))))

end Go.Proofs.Ytfkiljhjiogdlaa
