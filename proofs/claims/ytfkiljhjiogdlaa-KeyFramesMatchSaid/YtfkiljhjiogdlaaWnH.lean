/- key.Moved. (printed by gen_wnh.py) -/
import Derived.Test.YtfkiljhjiogdlaaWnE
import Derived.Test.YtfkiljhjiogdlaaWnG
namespace Go.Proofs.Ytfkiljhjiogdlaa
open Go.RowKit

theorem add_num {x y : Nat} (hx : ∃ s m i, rd x = .number s m i) (hy : ∃ s m i, rd y = .number s m i) : isNaN (fop .add x y) = false := by
  obtain ⟨s, m, i, hx⟩ := hx
  obtain ⟨t, n, j, hy⟩ := hy
  exact fop_nn (by rw [bits_add, hx, hy]; rfl) rfl
theorem win_len {kind : Int} {X Y Wd H S : Nat} {ps : List (Int × Int)} (h : winErr kind X Y Wd H S ps = 0) : (kind = 3 ∧ 3 ≤ ps.length ∧ ps.length ≤ 32) ∨ (kind ≠ 3 ∧ ps.length = 0) := by
  unfold winErr at h
  split at h
  · omega
  split at h
  · omega
  split at h
  · omega
  split at h
  · omega
  rename_i c4
  omega
theorem plB_iff {n : Int} : plB n = true ↔ -1048576 ≤ n ∧ n ≤ 1048576 := by unfold plB; simp
def mov (dx dy : Int) (p : Int × Int) : Int × Int := (p.1 + dx, p.2 + dy)
def movX (kind : Int) (X : Nat) (d : Int) : Nat := if kind = 3 then X else fop .add X (floatOfInt .f32 d)
def movErr (kind : Int) (X Y Wd H S : Nat) (ps : List (Int × Int)) (dx dy : Int) : Int :=
  if winErr kind X Y Wd H S ps ≠ 0 then winErr kind X Y Wd H S ps
  else if plB dx = false ∨ plB dy = false then 3
  else winErr kind (movX kind X dx) (movX kind Y dy) Wd H S (ps.map (mov dx dy))
def MovR (kind : Int) (X Y Wd H S : Nat) (ps : List (Int × Int)) (out : Bool) (er : Int) (B : Nat) (W : World) (e : Ending) (w' : World) : Prop :=
  ((er ≠ 0 ∧ e = .returned (.tuple #[.agg #[.int .i64 0, .float .f32 0, .float .f32 0, .float .f32 0, .float .f32 0, .float .f32 0, .slice none 0 0, .bool false], .int .i64 er])) ∨ (er = 0 ∧ ∃ a c, e = .returned (.tuple #[.agg #[.int .i64 kind, .float .f32 X, .float .f32 Y, .float .f32 Wd, .float .f32 H, .float .f32 S, .slice a ps.length c, .bool out], .int .i64 0]) ∧ SlP w' (.slice a ps.length c) ps)) ∧ Below B W w'
/-- The first k points are moved. -/
def HoldsM (cs : Array Value) (ps : List (Int × Int)) (dx dy : Int) (k : Nat) : Prop := ∀ j, j < ps.length → cs[j * 2]? = some (.int .i64 ((ps.getD j default).1 + if j < k then dx else 0)) ∧ cs[j * 2 + 1]? = some (.int .i64 ((ps.getD j default).2 + if j < k then dy else 0))
theorem HoldsM.start {cs : Array Value} {ps : List (Int × Int)} {dx dy : Int} (h : HoldsP cs ps) : HoldsM cs ps dx dy 0 := fun j hj => by simpa using h j hj
theorem HoldsM.full {cs : Array Value} {ps : List (Int × Int)} {dx dy : Int} (h : HoldsM cs ps dx dy ps.length) : HoldsP cs (ps.map (mov dx dy)) := fun j hj => by
  rw [List.length_map] at hj
  have := h j hj
  rw [if_pos hj, if_pos hj] at this
  have e : (ps.map (mov dx dy)).getD j default = mov dx dy (ps.getD j default) := by simp [List.getD, hj]
  rw [e]; exact this
theorem HoldsM.step {cs : Array Value} {ps : List (Int × Int)} {dx dy : Int} {k : Nat} (h : HoldsM cs ps dx dy k) (hk : k < ps.length) :
    HoldsM ((cs.setIfInBounds (k * 2) (.int .i64 ((ps.getD k default).1 + dx))).setIfInBounds (k * 2 + 1) (.int .i64 ((ps.getD k default).2 + dy))) ps dx dy (k + 1) := fun j hj => by
  obtain ⟨h1, h2⟩ := h j hj
  obtain ⟨g1, g2⟩ := h k hk
  have l2 : k * 2 + 1 < cs.size := (Array.getElem?_eq_some_iff.1 g2).1
  rw [Array.getElem?_setIfInBounds, Array.getElem?_setIfInBounds, Array.getElem?_setIfInBounds, Array.getElem?_setIfInBounds, Array.size_setIfInBounds]
  by_cases hjk : j = k
  · subst hjk
    constructor
    · rw [if_neg (by omega), if_pos rfl, if_pos (by omega), if_pos (by omega)]
    · rw [if_pos rfl, if_pos (by omega), if_pos (by omega)]
  · have e : (if j < k + 1 then dx else 0) = if j < k then dx else 0 := by
      by_cases h : j < k
      · rw [if_pos h, if_pos (by omega)]
      · rw [if_neg h, if_neg (by omega)]
    have e' : (if j < k + 1 then dy else 0) = if j < k then dy else 0 := by
      by_cases h : j < k
      · rw [if_pos h, if_pos (by omega)]
      · rw [if_neg h, if_neg (by omega)]
    rw [e, e']
    constructor
    · rw [if_neg (by omega), if_neg (by omega)]; exact h1
    · rw [if_neg (by omega), if_neg (by omega)]; exact h2

set_option maxRecDepth 100000 in
set_option maxHeartbeats 8000000 in
theorem key_Moved_err (kind : Int) (X Y Wd H S : Nat) (pa : Option Addr) (n c : Nat) (ps : List (Int × Int)) (out : Bool) (dx dy : Int) (W : World) (hs : SlP W (.slice pa n c) ps) (E : Int) (hE : winErr kind X Y Wd H S ps = E) (h0 : E ≠ 0) (qs : List (Int × Int)) (X' Y' : Nat) : Calls Try.prog 8 #[.agg #[.int .i64 kind, .float .f32 X, .float .f32 Y, .float .f32 Wd, .float .f32 H, .float .f32 S, .slice pa n c, .bool out], .int .i64 dx, .int .i64 dy] W (MovR kind X' Y' Wd H S qs out E W.heap.size W) := by
  have HW : Hid (∀ w, SlP w (.slice pa n c) ps → Calls Try.prog 26 #[.agg #[.int .i64 kind, .float .f32 X, .float .f32 Y, .float .f32 Wd, .float .f32 H, .float .f32 S, .slice pa n c, .bool out]] w fun e w' => e = .returned (.int .i64 E) ∧ Below w.heap.size w w') := Lib.hid fun w h => by rw [← hE]; exact key_CheckWindow kind X Y Wd H S _ ps out w h
  have HS := Lib.hid hs
  have e0 : (E != 0) = true := by simpa using h0
  have H0 := Lib.hid h0
  clear hs hE h0
  go_enter Try.func8, Try.ntmps8
  go_upto_region 1 with fail
  refine name_world ?_
  intro w0 hw0
  have x3 : Bx w0 W.heap.size 25 #[.int .i64 kind, .float .f32 X, .float .f32 Y, .float .f32 Wd, .float .f32 H, .float .f32 S, .slice pa n c, .bool out] := by rw [hw0]; exact (Bx.new _ _ _).alloc _
  have x6 : Bx w0 (W.heap.size + 1) 25 #[.int .i64 0, .float .f32 0, .float .f32 0, .float .f32 0, .float .f32 0, .float .f32 0, .slice none 0 0, .bool false] := by rw [hw0]; exact Bx.at _ (by simp)
  have B : Below W.heap.size W w0 := by rw [hw0]; exact bnew (bnew (Below.refl _ W))
  clear hw0
  obtain ⟨q3, f3, l3⟩ := x3.all
  obtain ⟨q6, f6, l6⟩ := x6.all
  go_wp2_with fail
  refine (HW.out _ (HS.out.keep B)).mono ?_
  rintro e w1 ⟨rfl, hb⟩
  replace x3 := x3.keep hb
  replace x6 := x6.keep hb
  replace B := bcall B hb
  clear hb q3 f3 l3 q6 f6 l6
  obtain ⟨q3, f3, l3⟩ := x3.all
  obtain ⟨q6, f6, l6⟩ := x6.all
  go_wp2_with fail
  refine bodyPost_ret (v := .tuple #[.agg #[.int .i64 0, .float .f32 0, .float .f32 0, .float .f32 0, .float .f32 0, .float .f32 0, .slice none 0 0, .bool false], .int .i64 E]) (by simp [results, Try.results8, go_sem, q6]) rfl ⟨.inl ⟨H0.out, rfl⟩, ?_⟩
  exact bput (by omega) (bput (by omega) (bput (by omega) (bput (by omega) (bput (by omega) (bput (by omega) (bput (by omega) (bput (by omega) (B))))))))

set_option maxRecDepth 100000 in
set_option maxHeartbeats 8000000 in
theorem key_Moved_far (kind : Int) (X Y Wd H S : Nat) (pa : Option Addr) (n c : Nat) (ps : List (Int × Int)) (out : Bool) (dx dy : Int) (W : World) (hs : SlP W (.slice pa n c) ps) (hE : winErr kind X Y Wd H S ps = 0) (h0 : plB dx = false ∨ plB dy = false) (qs : List (Int × Int)) (X' Y' : Nat) : Calls Try.prog 8 #[.agg #[.int .i64 kind, .float .f32 X, .float .f32 Y, .float .f32 Wd, .float .f32 H, .float .f32 S, .slice pa n c, .bool out], .int .i64 dx, .int .i64 dy] W (MovR kind X' Y' Wd H S qs out 3 W.heap.size W) := by
  have HW : Hid (∀ w, SlP w (.slice pa n c) ps → Calls Try.prog 26 #[.agg #[.int .i64 kind, .float .f32 X, .float .f32 Y, .float .f32 Wd, .float .f32 H, .float .f32 S, .slice pa n c, .bool out]] w fun e w' => e = .returned (.int .i64 0) ∧ Below w.heap.size w w') := Lib.hid fun w h => by rw [← hE]; exact key_CheckWindow kind X Y Wd H S _ ps out w h
  have HS := Lib.hid hs
  have HP := fun w => key_placed dx w
  have HQ := fun w => key_placed dy w
  cases hp : plB dx
  · rw [hp] at HP
    clear hs hE h0 HQ hp
    go_enter Try.func8, Try.ntmps8
    go_upto_region 1 with fail
    refine name_world ?_
    intro w0 hw0
    have x3 : Bx w0 W.heap.size 25 #[.int .i64 kind, .float .f32 X, .float .f32 Y, .float .f32 Wd, .float .f32 H, .float .f32 S, .slice pa n c, .bool out] := by rw [hw0]; exact (Bx.new _ _ _).alloc _
    have x6 : Bx w0 (W.heap.size + 1) 25 #[.int .i64 0, .float .f32 0, .float .f32 0, .float .f32 0, .float .f32 0, .float .f32 0, .slice none 0 0, .bool false] := by rw [hw0]; exact Bx.at _ (by simp)
    have B : Below W.heap.size W w0 := by rw [hw0]; exact bnew (bnew (Below.refl _ W))
    clear hw0
    obtain ⟨q3, f3, l3⟩ := x3.all
    obtain ⟨q6, f6, l6⟩ := x6.all
    go_wp2_with fail
    refine (HW.out _ (HS.out.keep B)).mono ?_
    rintro e w1 ⟨rfl, hb⟩
    replace x3 := x3.keep hb
    replace x6 := x6.keep hb
    replace B := bcall B hb
    clear hb q3 f3 l3 q6 f6 l6
    obtain ⟨q3, f3, l3⟩ := x3.all
    obtain ⟨q6, f6, l6⟩ := x6.all
    go_wp2_with fail
    refine (HP _).mono ?_
    rintro e w2 ⟨rfl, rfl⟩
    go_wp2_with fail
    refine bodyPost_ret (v := .tuple #[.agg #[.int .i64 0, .float .f32 0, .float .f32 0, .float .f32 0, .float .f32 0, .float .f32 0, .slice none 0 0, .bool false], .int .i64 3]) (by simp [results, Try.results8, go_sem, q6]) rfl ⟨.inl ⟨by decide, rfl⟩, ?_⟩
    exact bput (by omega) (bput (by omega) (bput (by omega) (bput (by omega) (bput (by omega) (bput (by omega) (bput (by omega) (bput (by omega) (B))))))))

  · obtain hq : plB dy = false := by rcases h0 with h | h; rw [hp] at h; cases h; exact h
    rw [hp] at HP
    rw [hq] at HQ
    clear hs hE h0 hp hq
    go_enter Try.func8, Try.ntmps8
    go_upto_region 1 with fail
    refine name_world ?_
    intro w0 hw0
    have x3 : Bx w0 W.heap.size 25 #[.int .i64 kind, .float .f32 X, .float .f32 Y, .float .f32 Wd, .float .f32 H, .float .f32 S, .slice pa n c, .bool out] := by rw [hw0]; exact (Bx.new _ _ _).alloc _
    have x6 : Bx w0 (W.heap.size + 1) 25 #[.int .i64 0, .float .f32 0, .float .f32 0, .float .f32 0, .float .f32 0, .float .f32 0, .slice none 0 0, .bool false] := by rw [hw0]; exact Bx.at _ (by simp)
    have B : Below W.heap.size W w0 := by rw [hw0]; exact bnew (bnew (Below.refl _ W))
    clear hw0
    obtain ⟨q3, f3, l3⟩ := x3.all
    obtain ⟨q6, f6, l6⟩ := x6.all
    go_wp2_with fail
    refine (HW.out _ (HS.out.keep B)).mono ?_
    rintro e w1 ⟨rfl, hb⟩
    replace x3 := x3.keep hb
    replace x6 := x6.keep hb
    replace B := bcall B hb
    clear hb q3 f3 l3 q6 f6 l6
    obtain ⟨q3, f3, l3⟩ := x3.all
    obtain ⟨q6, f6, l6⟩ := x6.all
    go_wp2_with fail
    refine (HP _).mono ?_
    rintro e w2 ⟨rfl, rfl⟩
    go_wp2_with fail
    refine (HQ _).mono ?_
    rintro e w2 ⟨rfl, rfl⟩
    go_wp2_with fail
    refine bodyPost_ret (v := .tuple #[.agg #[.int .i64 0, .float .f32 0, .float .f32 0, .float .f32 0, .float .f32 0, .float .f32 0, .slice none 0 0, .bool false], .int .i64 3]) (by simp [results, Try.results8, go_sem, q6]) rfl ⟨.inl ⟨by decide, rfl⟩, ?_⟩
    exact bput (by omega) (bput (by omega) (bput (by omega) (bput (by omega) (bput (by omega) (bput (by omega) (bput (by omega) (bput (by omega) (B))))))))


set_option maxRecDepth 100000 in
set_option maxHeartbeats 8000000 in
theorem key_Moved_flat (kind : Int) (X Y Wd H S : Nat) (pa : Option Addr) (n c : Nat) (ps : List (Int × Int)) (out : Bool) (dx dy : Int) (W : World) (hs : SlP W (.slice pa n c) ps) (E : Int) (hE : winErr kind X Y Wd H S ps = 0) (hk : kind ≠ 3) (hp1 : plB dx = true) (hp2 : plB dy = true) (XX YY : Nat) (hX : fop .add X (floatOfInt .f32 dx) = XX) (hY : fop .add Y (floatOfInt .f32 dy) = YY) (hE2 : winErr kind XX YY Wd H S [] = E) : Calls Try.prog 8 #[.agg #[.int .i64 kind, .float .f32 X, .float .f32 Y, .float .f32 Wd, .float .f32 H, .float .f32 S, .slice pa n c, .bool out], .int .i64 dx, .int .i64 dy] W (MovR kind XX YY Wd H S [] out E W.heap.size W) := by
  obtain ⟨_, nx, ny, _⟩ := win_ok hE
  have hps : ps = [] := by rcases win_len hE with h | h; exact absurd h.1 hk; exact List.eq_nil_of_length_eq_zero h.2
  subst hps
  have hd1 := plB_iff.1 hp1
  have hd2 := plB_iff.1 hp2
  obtain ⟨_, m1, p1, hr1, _⟩ := ofInt_val (n := dx) (by omega) (by omega)
  obtain ⟨_, m2, p2, hr2, _⟩ := ofInt_val (n := dy) (by omega) (by omega)
  obtain ⟨a1, b1⟩ := fres_is (add_num (isNum_rd nx) ⟨_, _, _, hr1⟩)
  obtain ⟨a2, b2⟩ := fres_is (add_num (isNum_rd ny) ⟨_, _, _, hr2⟩)
  rw [hX] at a1
  rw [hY] at a2
  have k4 : (kind != 3) = true := by simpa using hk
  obtain ⟨qs, hqs⟩ : ∃ qs : List (Int × Int), qs = [] := ⟨_, rfl⟩
  rw [← hqs] at hE2 ⊢
  have hN : ([] : List (Int × Int)).length ≤ 1000 := by simp
  obtain ⟨ps, hps⟩ : ∃ ps : List (Int × Int), ps = [] := ⟨_, rfl⟩
  rw [← hps] at hs hE hN
  have HW : Hid (∀ w, SlP w (.slice pa n c) ps → Calls Try.prog 26 #[.agg #[.int .i64 kind, .float .f32 X, .float .f32 Y, .float .f32 Wd, .float .f32 H, .float .f32 S, .slice pa n c, .bool out]] w fun e w' => e = .returned (.int .i64 0) ∧ Below w.heap.size w w') := Lib.hid fun w h => by rw [← hE]; exact key_CheckWindow kind X Y Wd H S _ ps out w h
  have HS := Lib.hid hs
  have HW2 : Hid (∀ pv w, SlP w pv qs → Calls Try.prog 26 #[.agg #[.int .i64 kind, .float .f32 XX, .float .f32 YY, .float .f32 Wd, .float .f32 H, .float .f32 S, pv, .bool out]] w fun e w' => e = .returned (.int .i64 E) ∧ Below w.heap.size w w') := Lib.hid fun pv w h => by rw [← hE2]; exact key_CheckWindow kind XX YY Wd H S _ qs out w h
  have HC : Hid (∀ w, SlP w (.slice pa n c) ps → Calls Try.prog 30 #[.agg #[.int .i64 kind, .float .f32 X, .float .f32 Y, .float .f32 Wd, .float .f32 H, .float .f32 S, .slice pa n c, .bool out]] w fun e w' => ∃ v', e = .returned (.agg #[.int .i64 kind, .float .f32 X, .float .f32 Y, .float .f32 Wd, .float .f32 H, .float .f32 S, v', .bool out]) ∧ CopyP w' w.heap.size v' ps ∧ Below w.heap.size w w') := Lib.hid fun w h => key_cloned kind X Y Wd H S _ ps out w (by omega) h
  have HP := fun w => key_placed dx w
  have HQ := fun w => key_placed dy w
  rw [hp1] at HP
  rw [hp2] at HQ
  have HQS := Lib.hid hqs
  have HPS := Lib.hid hps
  clear hs hE hE2 hX hY nx ny hr1 hr2 hk hqs hp1 hp2 hps hN hd1 hd2
  go_enter Try.func8, Try.ntmps8
  go_upto_region 1 with fail
  refine name_world ?_
  intro w0 hw0
  have x3 : Bx w0 W.heap.size 25 #[.int .i64 kind, .float .f32 X, .float .f32 Y, .float .f32 Wd, .float .f32 H, .float .f32 S, .slice pa n c, .bool out] := by rw [hw0]; exact (Bx.new _ _ _).alloc _
  have x6 : Bx w0 (W.heap.size + 1) 25 #[.int .i64 0, .float .f32 0, .float .f32 0, .float .f32 0, .float .f32 0, .float .f32 0, .slice none 0 0, .bool false] := by rw [hw0]; exact Bx.at _ (by simp)
  have B : Below W.heap.size W w0 := by rw [hw0]; exact bnew (bnew (Below.refl _ W))
  clear hw0
  obtain ⟨q3, f3, l3⟩ := x3.all
  obtain ⟨q6, f6, l6⟩ := x6.all
  go_wp2_with fail
  refine (HW.out _ (HS.out.keep B)).mono ?_
  rintro e w1 ⟨rfl, hb⟩
  replace x3 := x3.keep hb
  replace x6 := x6.keep hb
  replace B := bcall B hb
  clear hb q3 f3 l3 q6 f6 l6
  obtain ⟨q3, f3, l3⟩ := x3.all
  obtain ⟨q6, f6, l6⟩ := x6.all
  go_wp2_with fail
  refine (HP _).mono ?_
  rintro e w2 ⟨rfl, rfl⟩
  go_wp2_with fail
  refine (HQ _).mono ?_
  rintro e w2 ⟨rfl, rfl⟩
  go_wp2_with fail
  refine (HC.out _ (HS.out.keep B)).mono ?_
  rintro e w2 ⟨v', rfl, hcp, hb⟩
  replace hcp := hcp.mono (show W.heap.size + 2 ≤ w1.heap.size by omega)
  obtain ⟨ca, cc, rfl⟩ := hcp.sl
  rw [HPS.out] at hcp ⊢
  clear hcp
  replace x3 := x3.keep hb
  replace x6 := x6.keep hb
  replace B := bcall B hb
  clear hb q3 f3 l3 q6 f6 l6
  obtain ⟨q3, f3, l3⟩ := x3.all
  obtain ⟨q6, f6, l6⟩ := x6.all
  go_upto_region 7 with fail
  refine name_world ?_
  intro w3 hw3
  replace x3 : Bx w3 W.heap.size 25 #[.int .i64 kind, .float .f32 X, .float .f32 Y, .float .f32 Wd, .float .f32 H, .float .f32 S, .slice ca 0 cc, .bool out] := by rw [hw3]; exact (Bx.set (Bx.set (Bx.set (Bx.set (Bx.set (Bx.set (Bx.set (Bx.set x3 0 _) 1 _) 2 _) 3 _) 4 _) 5 _) 6 _) 7 _)
  replace x6 : Bx w3 (W.heap.size + 1) 25 #[.int .i64 0, .float .f32 0, .float .f32 0, .float .f32 0, .float .f32 0, .float .f32 0, .slice none 0 0, .bool false] := by rw [hw3]; exact (Bx.other (Bx.other (Bx.other (Bx.other (Bx.other (Bx.other (Bx.other (Bx.other x6 _ _ (by first | omega | (simp; done) | (simp; omega))) _ _ (by first | omega | (simp; done) | (simp; omega))) _ _ (by first | omega | (simp; done) | (simp; omega))) _ _ (by first | omega | (simp; done) | (simp; omega))) _ _ (by first | omega | (simp; done) | (simp; omega))) _ _ (by first | omega | (simp; done) | (simp; omega))) _ _ (by first | omega | (simp; done) | (simp; omega))) _ _ (by first | omega | (simp; done) | (simp; omega)))
  replace B : Below W.heap.size W w3 := by rw [hw3]; exact bput (by omega) (bput (by omega) (bput (by omega) (bput (by omega) (bput (by omega) (bput (by omega) (bput (by omega) (bput (by omega) (B))))))))
  clear hw3 q3 f3 l3 q6 f6 l6
  obtain ⟨q3, f3, l3⟩ := x3.all
  obtain ⟨q6, f6, l6⟩ := x6.all
  go_upto_region 9 with fail
  refine name_world ?_
  intro w4 hw4
  replace x3 : Bx w4 W.heap.size 25 #[.int .i64 kind, .float .f32 XX, .float .f32 Y, .float .f32 Wd, .float .f32 H, .float .f32 S, .slice ca 0 cc, .bool out] := by rw [hw4]; exact Bx.set x3 1 _
  replace x6 : Bx w4 (W.heap.size + 1) 25 #[.int .i64 0, .float .f32 0, .float .f32 0, .float .f32 0, .float .f32 0, .float .f32 0, .slice none 0 0, .bool false] := by rw [hw4]; exact (Bx.other x6 _ _ (by first | omega | (simp; done) | (simp; omega)))
  replace B : Below W.heap.size W w4 := by rw [hw4]; exact bput (by omega) (B)
  clear hw4 q3 f3 l3 q6 f6 l6
  obtain ⟨q3, f3, l3⟩ := x3.all
  obtain ⟨q6, f6, l6⟩ := x6.all
  go_upto_region 10 with fail
  refine name_world ?_
  intro w4 hw4
  replace x3 : Bx w4 W.heap.size 25 #[.int .i64 kind, .float .f32 XX, .float .f32 YY, .float .f32 Wd, .float .f32 H, .float .f32 S, .slice ca 0 cc, .bool out] := by rw [hw4]; exact Bx.set x3 2 _
  replace x6 : Bx w4 (W.heap.size + 1) 25 #[.int .i64 0, .float .f32 0, .float .f32 0, .float .f32 0, .float .f32 0, .float .f32 0, .slice none 0 0, .bool false] := by rw [hw4]; exact (Bx.other x6 _ _ (by first | omega | (simp; done) | (simp; omega)))
  replace B : Below W.heap.size W w4 := by rw [hw4]; exact bput (by omega) (B)
  clear hw4 q3 f3 l3 q6 f6 l6
  obtain ⟨q3, f3, l3⟩ := x3.all
  obtain ⟨q6, f6, l6⟩ := x6.all
  go_wp2_with fail
  go_loopw [46] (fun i wr => i = .int .i64 0 ∧ Bx wr W.heap.size 25 #[.int .i64 kind, .float .f32 XX, .float .f32 YY, .float .f32 Wd, .float .f32 H, .float .f32 S, .slice ca 0 cc, .bool out] ∧ Bx wr (W.heap.size + 1) 25 #[.int .i64 0, .float .f32 0, .float .f32 0, .float .f32 0, .float .f32 0, .float .f32 0, .slice none 0 0, .bool false] ∧ Below W.heap.size W wr) (fun _ _ => 0)
  case atStart => exact ⟨rfl, x3, x6, B⟩
  case round =>
    clear x3 x6 B q3 f3 l3 q6 f6 l6
    obtain ⟨rfl, x3, x6, B⟩ := hrel
    obtain ⟨q3, f3, l3⟩ := x3.all
    obtain ⟨q6, f6, l6⟩ := x6.all
    go_wp2_with fail
    refine (HW2.out _ _ (by rw [HQS.out]; exact ⟨_, _, rfl, by simp [maxLen], .inl rfl⟩)).mono ?_
    rintro e w5 ⟨rfl, hb⟩
    replace x3 := x3.keep hb
    replace x6 := x6.keep hb
    replace B := bcall B hb
    clear hb q3 f3 l3 q6 f6 l6
    obtain ⟨q3, f3, l3⟩ := x3.all
    obtain ⟨q6, f6, l6⟩ := x6.all
    by_cases h9 : E = 0
    · subst h9
      go_wp2_with fail
      refine bodyPost_ret (v := .tuple #[.agg #[.int .i64 kind, .float .f32 XX, .float .f32 YY, .float .f32 Wd, .float .f32 H, .float .f32 S, .slice ca 0 cc, .bool out], .int .i64 0]) (by simp [results, Try.results8, go_sem, q6]) rfl ⟨.inr ⟨rfl, ca, cc, by rw [HQS.out]; rfl, by rw [HQS.out]; exact ⟨_, _, rfl, by simp [maxLen], .inl rfl⟩⟩, ?_⟩
      exact bput (by omega) (bput (by omega) (bput (by omega) (bput (by omega) (bput (by omega) (bput (by omega) (bput (by omega) (bput (by omega) (B))))))))
    · have e9 : (E != 0) = true := by simpa using h9
      go_wp2_with fail
      refine bodyPost_ret (v := .tuple #[.agg #[.int .i64 0, .float .f32 0, .float .f32 0, .float .f32 0, .float .f32 0, .float .f32 0, .slice none 0 0, .bool false], .int .i64 E]) (by simp [results, Try.results8, go_sem, q6]) rfl ⟨.inl ⟨h9, rfl⟩, ?_⟩
      exact bput (by omega) (bput (by omega) (bput (by omega) (bput (by omega) (bput (by omega) (bput (by omega) (bput (by omega) (bput (by omega) (B))))))))

end Go.Proofs.Ytfkiljhjiogdlaa
