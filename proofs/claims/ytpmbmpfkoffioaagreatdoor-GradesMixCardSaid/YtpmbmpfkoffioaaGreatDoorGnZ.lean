/- dyeref1.Between: its pieces. (printed by gen_gnw.py) -/
import Derived.Test.YtpmbmpfkoffioaaGreatDoorGnU
import Derived.Maps.AppendAt
namespace Go.Proofs.YtpmbmpfkoffioaaGreatDoor

section
open Go.RowKit Go.Lib

/-- What a cell is to hold in the end (the curves' cells apart). -/
def tgtF (g : Gd) (c : Nat) : Value :=
  if c = 0 then .int .i64 g.kind else if c ≤ 9 then .float .f32 (g.whe.getD (c - 1) 0) else if c ≤ 19 then .float .f32 (g.lst.getD (c - 10) 0)
  else if c ≤ 43 then .float .f32 (g.mix.getD (c - 32) 0) else if c = 44 then .float .f32 g.piv else if c = 45 then .float .f32 g.amt else .int .i64 (g.pts.getD (c - 46) 0)
theorem tgtF_one (g : Gd) (c : Nat) : (tgtF g c).oneCell' = true := by
  unfold tgtF
  repeat (split; · simp [Value.oneCell'])
  simp [Value.oneCell']
/-- The cells in S hold what they are to hold. -/
structure PD (g : Gd) (S : Nat → Prop) (D : Array Value) : Prop where
  size : D.size = 49
  one : D.all (·.oneCell') = true
  at_ : ∀ c, S c → D[c]? = some (tgtF g c)
theorem PD.start (g : Gd) : PD g (fun _ => False) zeroGr := ⟨zeroGr_ok.1, zeroGr_ok.2.1, fun _ h => h.elim⟩
theorem PD.put {g : Gd} {S : Nat → Prop} {D : Array Value} (h : PD g S D) {c : Nat} (hc : c < 49) {v : Value} (hv : v = tgtF g c) : PD g (fun i => S i ∨ i = c) (D.setIfInBounds c v) := by
  subst hv
  refine ⟨by simp [h.size], all_set h.one (tgtF_one g c), fun i hi => ?_⟩
  by_cases hic : i = c
  · subst hic
    rw [Array.getElem?_setIfInBounds_self_of_lt (by rw [h.size]; exact hc)]
  · rw [Array.getElem?_setIfInBounds_ne (Ne.symm hic)]
    exact h.at_ i (hi.resolve_right hic)
theorem PD.weak {g : Gd} {S S' : Nat → Prop} {D : Array Value} (h : PD g S D) (hs : ∀ c, S' c → S c) : PD g S' D := ⟨h.size, h.one, fun c hc => h.at_ c (hs c hc)⟩
/-- A cell that is no target is set. -/
theorem PD.other {g : Gd} {S : Nat → Prop} {D : Array Value} (h : PD g S D) {c : Nat} (hc : ¬ S c) {v : Value} (hv : v.oneCell' = true) : PD g S (D.setIfInBounds c v) :=
  ⟨by simp [h.size], all_set h.one hv, fun i hi => by rw [Array.getElem?_setIfInBounds_ne (fun e => hc (by rw [e]; exact hi))]; exact h.at_ i hi⟩
theorem PD.cell {g : Gd} {S : Nat → Prop} {D : Array Value} (h : PD g S D) {c : Nat} (hc : c < 49) : ∃ v, D[c]? = some v := ⟨_, Array.getElem?_eq_getElem (by rw [h.size]; exact hc)⟩
/-- The curves laid so far. -/
structure CR (B : Nat) (g : Gd) (m : Nat) (D : Array Value) (w : World) : Prop where
  kind : ∀ i, i < m → D[20 + i * 3]? = some (.int .i64 (cvAt g i).kind)
  xs : ∀ i, i < m → ∃ v, D[20 + i * 3 + 1]? = some v ∧ OwF B w v (cvAt g i).xs
  ys : ∀ i, i < m → ∃ v, D[20 + i * 3 + 2]? = some v ∧ OwF B w v (cvAt g i).ys
theorem CR.keep {B m : Nat} {g : Gd} {D : Array Value} {w w' : World} (h : CR B g m D w) (hb : Below w.heap.size w w') : CR B g m D w' :=
  ⟨h.kind, fun i hi => (by obtain ⟨v, e1, e2⟩ := h.xs i hi; exact ⟨v, e1, e2.keep hb⟩), fun i hi => (by obtain ⟨v, e1, e2⟩ := h.ys i hi; exact ⟨v, e1, e2.keep hb⟩)⟩
/-- A whole grade. -/
theorem PD.gd {B : Nat} {g : Gd} {D : Array Value} {w : World} (h : PD g (fun c => c < 20 ∨ (32 ≤ c ∧ c < 49)) D) (c : CR B g 4 D w) (h1 : g.whe.length = 9) (h2 : g.lst.length = 10) (h3 : g.mix.length = 12) (h4 : g.cvs.length = 4) (h5 : g.pts.length = 3) : GdAt w D g := by
  refine ⟨h.size, h.one, by rw [h.at_ 0 (by omega)]; rfl, ⟨h1, fun i hi => ?_⟩, ⟨h2, fun i hi => ?_⟩, ⟨h4, fun i cc hc => ?_⟩, ⟨h3, fun i hi => ?_⟩, by rw [h.at_ 44 (by omega)]; rfl, by rw [h.at_ 45 (by omega)]; rfl, ⟨h5, fun i hi => ?_⟩⟩
  · rw [h.at_ _ (by omega)]
    unfold tgtF
    rw [if_neg (by omega), if_pos (by omega), show 1 + i - 1 = i by omega]
  · rw [h.at_ _ (by omega)]
    unfold tgtF
    rw [if_neg (by omega), if_neg (by omega), if_pos (by omega), show 10 + i - 10 = i by omega]
  · have hi : i < 4 := by have := (List.getElem?_eq_some_iff.1 hc).1; rw [h4] at this; exact this
    have e : cvAt g i = cc := by unfold cvAt; rw [List.getD_eq_getElem?_getD, hc]; rfl
    obtain ⟨vx, x1, x2⟩ := c.xs i hi
    obtain ⟨vy, y1, y2⟩ := c.ys i hi
    have k := c.kind i hi
    rw [e] at x2 y2 k
    exact ⟨by rw [← k]; congr 1; omega, ⟨vx, by rw [← x1]; congr 1; omega, x2.sl⟩, vy, by rw [← y1]; congr 1; omega, y2.sl⟩
  · rw [h.at_ _ (by omega)]
    unfold tgtF
    rw [if_neg (by omega), if_neg (by omega), if_neg (by omega), if_pos (by omega), show 32 + i - 32 = i by omega]
  · rw [h.at_ _ (by omega)]
    unfold tgtF
    rw [if_neg (by omega), if_neg (by omega), if_neg (by omega), if_neg (by omega), if_neg (by omega), if_neg (by omega), show 46 + i - 46 = i by omega]
/-- The targets of a mixed grade. -/
theorem lerpL_at {t i : Nat} {xs ys : List Nat} (h : xs.length = ys.length) (hi : i < xs.length) : (lerpL t xs ys).getD i 0 = lerpV (xs.getD i 0) (ys.getD i 0) t := by
  unfold lerpL
  rw [List.getD_eq_getElem?_getD, List.getElem?_zipWith, List.getD_eq_getElem?_getD, List.getD_eq_getElem?_getD, List.getElem?_eq_getElem hi, List.getElem?_eq_getElem (show i < ys.length by omega)]
  rfl
theorem tgt_whe {a b : Gd} {t i : Nat} (h : a.whe.length = 9 ∧ b.whe.length = 9) (hi : i < 9) : tgtF (mixG a b t) (1 + i) = .float .f32 (lerpV (a.whe.getD i 0) (b.whe.getD i 0) t) := by
  unfold tgtF
  rw [if_neg (by omega), if_pos (by omega), show 1 + i - 1 = i by omega]
  show Value.float .f32 ((lerpL t a.whe b.whe).getD i 0) = _
  rw [lerpL_at (by omega) (by omega)]
theorem tgt_lst {a b : Gd} {t i : Nat} (h : a.lst.length = 10 ∧ b.lst.length = 10) (hi : i < 10) : tgtF (mixG a b t) (10 + i) = .float .f32 (lerpV (a.lst.getD i 0) (b.lst.getD i 0) t) := by
  unfold tgtF
  rw [if_neg (by omega), if_neg (by omega), if_pos (by omega), show 10 + i - 10 = i by omega]
  show Value.float .f32 ((lerpL t a.lst b.lst).getD i 0) = _
  rw [lerpL_at (by omega) (by omega)]
theorem tgt_mix {a b : Gd} {t i : Nat} (h : a.mix.length = 12 ∧ b.mix.length = 12) (hi : i < 12) : tgtF (mixG a b t) (32 + i) = .float .f32 (lerpV (a.mix.getD i 0) (b.mix.getD i 0) t) := by
  unfold tgtF
  rw [if_neg (by omega), if_neg (by omega), if_neg (by omega), if_pos (by omega), show 32 + i - 32 = i by omega]
  show Value.float .f32 ((lerpL t a.mix b.mix).getD i 0) = _
  rw [lerpL_at (by omega) (by omega)]
theorem tgt_pts {a b : Gd} {t i : Nat} (h : a.pts.length = 3 ∧ b.pts.length = 3) (hi : i < 3) : tgtF (mixG a b t) (46 + i) = .int .i64 (ptMix (a.pts.getD i 0) (b.pts.getD i 0) t) := by
  unfold tgtF
  rw [if_neg (by omega), if_neg (by omega), if_neg (by omega), if_neg (by omega), if_neg (by omega), if_neg (by omega), show 46 + i - 46 = i by omega]
  show Value.int .i64 ((List.zipWith (fun n m => ptMix n m t) a.pts b.pts).getD i 0) = _
  rw [List.getD_eq_getElem?_getD, List.getElem?_zipWith, List.getD_eq_getElem?_getD, List.getD_eq_getElem?_getD, List.getElem?_eq_getElem (show i < a.pts.length by omega), List.getElem?_eq_getElem (show i < b.pts.length by omega)]
  rfl
theorem cvAt_mix {a b : Gd} {t i : Nat} (h : a.cvs.length = 4 ∧ b.cvs.length = 4) (hi : i < 4) : cvAt (mixG a b t) i = mixCv t (cvAt a i) (cvAt b i) := by
  unfold cvAt
  show (List.zipWith (mixCv t) a.cvs b.cvs).getD i ⟨0, [], []⟩ = _
  rw [List.getD_eq_getElem?_getD, List.getElem?_zipWith, List.getD_eq_getElem?_getD, List.getD_eq_getElem?_getD, List.getElem?_eq_getElem (show i < a.cvs.length by omega), List.getElem?_eq_getElem (show i < b.cvs.length by omega)]
  rfl
/-- A store of a whole grade, in a region that draws its order. -/
theorem run_store_op {o : Oper} {a : Act} {w : World} {x y : Operand} (ho : o.op = .store 37 x y) {b : Nat} {D Z : Array Value} (hx : a.eval x = .pointer (some ⟨b, 0, none⟩)) (hy : a.eval y = .agg D) (hZ : Bx w b 37 Z) (hZs : Z.size = 49) (hD : D.size = 49) (h1 : D.all (·.oneCell') = true) :
    (execOp a.eval o).run Tryz.prog w = .ok .skip (w.setRow b D) := by
  unfold execOp
  simp only [ho, hx, hy, Instr.storeAt, Instr.sureAddr, Sem.run_bind, Sem.run_pure, Result.andThen_ok, run_storeVar_row (P := Tryz.prog) w b 37 37 Z D hZ (by rw [hD]; exact grade_size) (hZs.trans hD.symm) h1]
end

section
open Go.RowKit Go.Lib

theorem run_app_op {B : Nat} {w : World} {L : List Nat} {x : Nat} {v : Value} {o : Oper} {a : Act} (s y : Operand)
    (ho : o.op = .call { callee := .builtin .append, args := #[s, y], argTypes := #[28, 28] }) (hs : a.eval s = v) (g c : Nat) (hy : a.eval y = .slice (some ⟨g, 0, none⟩) 1 c) (hm : OwF B w v L) (hx : Bx w g 22 #[.float .f32 x])
    (hl : L.length + 1 ≤ 1000000000) (hB : B ≤ w.heap.size) :
    ∃ v' w', (execOp a.eval o).run Tryz.prog w = .ok (.value v') w' ∧ OwF B w' v' (L ++ [x]) ∧ w.grownBy w' v.ownBlock ∧ (v'.ownBlock = v.ownBlock ∨ v'.ownBlock = some w.heap.size) := by
  obtain ⟨i0, hi, hz0, hz1, hz2⟩ := info_parts infoGF
  have hml : maxLen = 9223372036854775807 := rfl
  obtain ⟨v', w', hr, h2, h3, _, h5⟩ := run_append_own_at (P := Tryz.prog) w B 28 o.type 22 i0 (.float .f32 0) 1 4 Tryz.underlying28 hi hz0 hz1 hz2 rfl (by decide) v L.length (L.map (Value.float .f32)) hm ⟨g, 0, none⟩ 1 c [Value.float .f32 x] rfl
    (fun j u hj => by
      match j, hj with
      | 0, hj => rw [add_none, hx.all.1]; exact hj) (fun u hu => by obtain rfl := List.mem_singleton.1 hu; rfl) (by omega) (by omega) hB
  refine ⟨v', w', ?_, ?_, h3, h5⟩
  · unfold execOp
    simp only [ho, resolve, invoke, builtin, Sem.run_bind, Sem.run_pure, Result.andThen_ok, List.map_toArray, List.map_cons, List.map_nil, hs, hy, hr]
  · unfold OwF
    rw [List.map_append, List.length_append]; exact h2

theorem inv_app {Q : Exit → Act → World → Prop} {A : Nat → Value → Prop} {E : (Nat → Bool) → (Nat → Value) → World → Prop} {d : Nat → Bool} {vs : Nat → Value} {i : Nat} {B : Nat} {w : World} {L : List Nat} {x : Nat} {v : Value} {o : Oper} {a : Act} (s y : Operand)
    (ho : o.op = .call { callee := .builtin .append, args := #[s, y], argTypes := #[28, 28] }) (hs : a.eval s = v) (g c : Nat) (hy : a.eval y = .slice (some ⟨g, 0, none⟩) 1 c) (hm : OwF B w v L) (hx : Bx w g 22 #[.float .f32 x])
    (hl : L.length + 1 ≤ 1000000000) (hB : B ≤ w.heap.size) (hn : o.dst ≠ none)
    (hK : ∀ v' w', OwF B w' v' (L ++ [x]) → w.grownBy w' v.ownBlock → (v'.ownBlock = v.ownBlock ∨ v'.ownBlock = some w.heap.size) → A i v' ∧ E (upd d i true) (upd vs i v') w') : o.wp Tryz.prog a w (InvPost A E d vs i o a) Q := by
  obtain ⟨v', w', hr, h1, h2, h3⟩ := run_app_op s y ho hs g c hy hm hx hl hB
  exact inv_val hr (fun h => absurd h hn) (hK v' w' h1 h2 h3).1 (hK v' w' h1 h2 h3).2

structure TR2 (W0 : World) (p : Nat) (ck : Int) (c1 c2 : Nat) (X Y : List Nat) (x y : Nat) (v1 v2 : Value) (l1 a1 n1 s1 l2 a2 n2 s2 : Bool) (b1 m1 b2 m2 : Value) (w : World) : Prop where
  bel : Below W0.heap.size W0 w
  lo : W0.heap.size ≤ p
  cc : c1 ≠ c2 ∧ (c1 = 1 ∨ c1 = 2) ∧ (c2 = 1 ∨ c2 = 2)
  bx : ∃ D, Bx w p 30 D ∧ D.size = 3 ∧ D[0]? = some (.int .i64 ck) ∧ D[c1]? = some (cond s1 m1 v1) ∧ D[c2]? = some (cond s2 m2 v2)
  own1 : OwF W0.heap.size w (cond n1 m1 v1) (cond n1 (X ++ [x]) X)
  own2 : OwF W0.heap.size w (cond n2 m2 v2) (cond n2 (Y ++ [y]) Y)
  sep : ∀ g, (cond n1 m1 v1).ownBlock = some g → (cond n2 m2 v2).ownBlock = some g → False
  arg1 : a1 = true → n1 = false → ∃ g, b1 = .slice (some ⟨g, 0, none⟩) 1 1 ∧ Bx w g 22 #[.float .f32 x] ∧ (cond n1 m1 v1).ownBlock ≠ some g ∧ (cond n2 m2 v2).ownBlock ≠ some g
  arg2 : a2 = true → n2 = false → ∃ g, b2 = .slice (some ⟨g, 0, none⟩) 1 1 ∧ Bx w g 22 #[.float .f32 y] ∧ (cond n1 m1 v1).ownBlock ≠ some g ∧ (cond n2 m2 v2).ownBlock ≠ some g
  on1 : n1 = true → l1 = true ∧ a1 = true
  os1 : s1 = true → n1 = true
  on2 : n2 = true → l2 = true ∧ a2 = true
  os2 : s2 = true → n2 = true
section
variable {W0 w w' : World} {p : Nat} {ck : Int} {c1 c2 : Nat} {X Y : List Nat} {x y : Nat} {v1 v2 : Value} {l1 a1 n1 s1 l2 a2 n2 s2 : Bool} {b1 m1 b2 m2 : Value}
theorem TR2.swap (h : TR2 W0 p ck c1 c2 X Y x y v1 v2 l1 a1 n1 s1 l2 a2 n2 s2 b1 m1 b2 m2 w) : TR2 W0 p ck c2 c1 Y X y x v2 v1 l2 a2 n2 s2 l1 a1 n1 s1 b2 m2 b1 m1 w := by
  obtain ⟨q1, q2, ⟨q3, q4, q5⟩, ⟨D, d1, d2, d3, d4, d5⟩, q6, q7, q8, q9, q10, q11, q12, q13, q14⟩ := h
  exact ⟨q1, q2, ⟨Ne.symm q3, q5, q4⟩, ⟨D, d1, d2, d3, d5, d4⟩, q7, q6, fun g e f => q8 g f e, fun e f => (by obtain ⟨g, g1, g2, g3, g4⟩ := q10 e f; exact ⟨g, g1, g2, g4, g3⟩), fun e f => (by obtain ⟨g, g1, g2, g3, g4⟩ := q9 e f; exact ⟨g, g1, g2, g4, g3⟩), q13, q14, q11, q12⟩
theorem TR2.keep (h : TR2 W0 p ck c1 c2 X Y x y v1 v2 l1 a1 n1 s1 l2 a2 n2 s2 b1 m1 b2 m2 w) (hb : Below w.heap.size w w') : TR2 W0 p ck c1 c2 X Y x y v1 v2 l1 a1 n1 s1 l2 a2 n2 s2 b1 m1 b2 m2 w' := by
  obtain ⟨q1, q2, q3, ⟨D, d1, d2, d3, d4, d5⟩, q6, q7, q8, q9, q10, q11, q12, q13, q14⟩ := h
  exact ⟨q1.trans (hb.mono q1.size), q2, q3, ⟨D, d1.keep hb, d2, d3, d4, d5⟩, q6.keep hb, q7.keep hb, q8, fun e f => (by obtain ⟨g, g1, g2, g3⟩ := q9 e f; exact ⟨g, g1, g2.keep hb, g3⟩), fun e f => (by obtain ⟨g, g1, g2, g3⟩ := q10 e f; exact ⟨g, g1, g2.keep hb, g3⟩), q11, q12, q13, q14⟩
theorem TR2.load (h : TR2 W0 p ck c1 c2 X Y x y v1 v2 l1 a1 n1 s1 l2 a2 n2 s2 b1 m1 b2 m2 w) (hl : l1 = false) : w.cell? ⟨p, c1, none⟩ = some v1 := by
  obtain ⟨q1, q2, q3, ⟨D, d1, d2, d3, d4, d5⟩, q6, q7, q8, q9, q10, q11, q12, q13, q14⟩ := h
  have hs : s1 = false := by
    cases s1
    · rfl
    · have := (q11 (q12 rfl)).1; rw [hl] at this; cases this
  subst hs
  rw [d1.all.1]; exact d4
theorem TR2.loaded (h : TR2 W0 p ck c1 c2 X Y x y v1 v2 l1 a1 n1 s1 l2 a2 n2 s2 b1 m1 b2 m2 w) : TR2 W0 p ck c1 c2 X Y x y v1 v2 true a1 n1 s1 l2 a2 n2 s2 b1 m1 b2 m2 w := by
  obtain ⟨q1, q2, q3, q5, q6, q7, q8, q9, q10, q11, q12, q13, q14⟩ := h
  exact ⟨q1, q2, q3, q5, q6, q7, q8, q9, q10, fun e => ⟨rfl, (q11 e).2⟩, q12, q13, q14⟩
theorem TR2.arg (h : TR2 W0 p ck c1 c2 X Y x y v1 v2 l1 a1 n1 s1 l2 a2 n2 s2 b1 m1 b2 m2 w) : TR2 W0 p ck c1 c2 X Y x y v1 v2 l1 true n1 s1 l2 a2 n2 s2 (.slice (some ⟨w.heap.size, 0, none⟩) 1 1) m1 b2 m2 (w.alloc (.cells #[.float .f32 x] 22)) := by
  have k := h.keep (bnew (Below.refl _ w) (ob := .cells #[.float .f32 x] 22))
  obtain ⟨q1, q2, q3, q5, q6, q7, q8, q9, q10, q11, q12, q13, q14⟩ := k
  refine ⟨q1, q2, q3, q5, q6, q7, q8, fun _ _ => ⟨_, rfl, Bx.new _ _ _, fun e => ?_, fun e => ?_⟩, q10, fun e => ⟨(q11 e).1, rfl⟩, q12, q13, q14⟩
  · have := (h.own1.own e).2.1; omega
  · have := (h.own2.own e).2.1; omega
theorem TR2.app (h : TR2 W0 p ck c1 c2 X Y x y v1 v2 true true false s1 l2 a2 n2 s2 b1 m1 b2 m2 w) {v' : Value} (hown : OwF W0.heap.size w' v' (X ++ [x])) (hgrow : w.grownBy w' v1.ownBlock) (hnew : v'.ownBlock = v1.ownBlock ∨ v'.ownBlock = some w.heap.size) :
    TR2 W0 p ck c1 c2 X Y x y v1 v2 true true true s1 l2 a2 n2 s2 b1 v' b2 m2 w' := by
  obtain ⟨q1, q2, q3, ⟨D, d1, d2, d3, d4, d5⟩, q6, q7, q8, q9, q10, q11, q12, q13, q14⟩ := h
  have hs : s1 = false := by
    cases s1
    · rfl
    · exact absurd (q12 rfl) (by decide)
  subst hs
  have hpp : some p ≠ v1.ownBlock := fun e => by
    obtain ⟨_, _, cur, hc⟩ := q6.own e.symm
    exact hc.ne d1 (by decide) rfl
  refine ⟨q1.grown hgrow q1.size (fun k hk => (q6.own hk).1), q2, q3, ⟨D, ?_, d2, d3, d4, d5⟩, hown, ?_, fun g e1 e2 => ?_, fun _ e => (by cases e), fun e f => ?_, fun _ => ⟨rfl, rfl⟩, fun _ => rfl, q13, q14⟩
  · unfold Bx; rw [hgrow.block p d1.lt hpp]; exact d1
  · refine q7.at fun b cur hb hc => hgrow.block b hc.lt fun e => q8 b e.symm hb
  · rcases hnew with hn | hn
    · exact q8 g (hn.symm.trans e1) e2
    · have h1 := hn.symm.trans e1
      injection h1 with h1
      have := (q7.own e2).2.1
      omega
  · obtain ⟨g, g1, g2, g3, g4⟩ := q10 e f
    refine ⟨g, g1, ?_, fun e => ?_, g4⟩
    · unfold Bx; rw [hgrow.block g g2.lt (Ne.symm g3)]; exact g2
    · rcases hnew with hn | hn
      · exact g3 (hn.symm.trans e)
      · have h1 := hn.symm.trans e
        injection h1 with h1
        have := g2.lt
        omega
theorem TR2.app2 (h : TR2 W0 p ck c1 c2 X Y x y v1 v2 l1 a1 n1 s1 l2 a2 n2 s2 b1 m1 b2 m2 w) (hl : l1 = true) (ha : a1 = true) (hn : n1 = false) {v' : Value} (hown : OwF W0.heap.size w' v' (X ++ [x])) (hgrow : w.grownBy w' v1.ownBlock) (hnew : v'.ownBlock = v1.ownBlock ∨ v'.ownBlock = some w.heap.size) :
    TR2 W0 p ck c1 c2 X Y x y v1 v2 l1 a1 true s1 l2 a2 n2 s2 b1 v' b2 m2 w' := by
  subst hl ha hn
  exact h.app hown hgrow hnew
theorem TR2.store (h : TR2 W0 p ck c1 c2 X Y x y v1 v2 l1 a1 n1 s1 l2 a2 n2 s2 b1 m1 b2 m2 w) (hn : n1 = true) : TR2 W0 p ck c1 c2 X Y x y v1 v2 l1 a1 n1 true l2 a2 n2 s2 b1 m1 b2 m2 (w.setCell ⟨p, c1, none⟩ m1) := by
  obtain ⟨q1, q2, ⟨r1, r2, r3⟩, ⟨D, d1, d2, d3, d4, d5⟩, q6, q7, q8, q9, q10, q11, q12, q13, q14⟩ := h
  subst hn
  refine ⟨q1.setCell (p := ⟨p, c1, none⟩) q2 _, q2, ⟨r1, r2, r3⟩, ⟨_, d1.set c1 m1, by simp [d2], ?_, ?_, ?_⟩, q6.put d1 (by decide), q7.put d1 (by decide), q8, fun _ e => (by cases e), fun e f => ?_, q11, fun _ => rfl, q13, q14⟩
  · rw [Array.getElem?_setIfInBounds_ne (by omega)]; exact d3
  · rw [Array.getElem?_setIfInBounds_self_of_lt (by omega)]; rfl
  · rw [Array.getElem?_setIfInBounds_ne r1]; exact d5
  · obtain ⟨g, g1, g2, g3⟩ := q10 e f
    exact ⟨g, g1, g2.other _ _ (g2.ne d1 (by decide)), g3⟩
theorem TR2.st (h : TR2 W0 p ck c1 c2 X Y x y v1 v2 l1 a1 n1 s1 l2 a2 n2 s2 b1 m1 b2 m2 w) : ∃ v, w.cell? ⟨p, c1, none⟩ = some v ∧ w.frozen? ⟨p, c1, none⟩ = false := by
  obtain ⟨q1, q2, q3, ⟨D, d1, d2, d3, d4, d5⟩, _⟩ := h
  exact ⟨_, (d1.all.1 _).trans d4, d1.all.2.1 _⟩
theorem TR2.turn (h : TR2 W0 p ck c1 c2 X Y x y v1 v2 false false false false false false false false b1 m1 b2 m2 w) (x' y' : Nat) (b1' m1' b2' m2' : Value) : TR2 W0 p ck c1 c2 X Y x' y' v1 v2 false false false false false false false false b1' m1' b2' m2' w :=
  ⟨h.bel, h.lo, h.cc, h.bx, h.own1, h.own2, h.sep, fun e => (by cases e), fun e => (by cases e), fun e => (by cases e), fun e => (by cases e), fun e => (by cases e), fun e => (by cases e)⟩
theorem TR2.fin (h : TR2 W0 p ck c1 c2 X Y x y v1 v2 true true true true true true true true b1 m1 b2 m2 w) (x' y' : Nat) (b1' m1' b2' m2' : Value) : TR2 W0 p ck c1 c2 (X ++ [x]) (Y ++ [y]) x' y' m1 m2 false false false false false false false false b1' m1' b2' m2' w :=
  ⟨h.bel, h.lo, h.cc, h.bx, h.own1, h.own2, h.sep, fun e => (by cases e), fun e => (by cases e), fun e => (by cases e), fun e => (by cases e), fun e => (by cases e), fun e => (by cases e)⟩
end
end

section
open Go.RowKit Go.Lib

/-- Two curves laid in new blocks, under way. -/
structure TwoC (W0 : World) (A B : Array Value) (d8 d9 d10 d11 : Bool) (v8 v9 : Value) (w : World) : Prop where
  bel : Below W0.heap.size W0 w
  b8 : d8 = true → ∃ p, v8 = .pointer (some ⟨p, 0, none⟩) ∧ Bx w p 30 (if d10 then A else #[.int .i64 0, .slice none 0 0, .slice none 0 0])
  b9 : d9 = true → ∃ p, v9 = .pointer (some ⟨p, 0, none⟩) ∧ Bx w p 30 (if d11 then B else #[.int .i64 0, .slice none 0 0, .slice none 0 0])
  ne : d8 = true → d9 = true → ∀ p q, v8 = .pointer (some ⟨p, 0, none⟩) → v9 = .pointer (some ⟨q, 0, none⟩) → p ≠ q
  o10 : d10 = true → d8 = true
  o11 : d11 = true → d9 = true
  lo8 : d8 = true → ∀ p, v8 = .pointer (some ⟨p, 0, none⟩) → W0.heap.size ≤ p
  lo9 : d9 = true → ∀ p, v9 = .pointer (some ⟨p, 0, none⟩) → W0.heap.size ≤ p
section
variable {W0 : World} {A B : Array Value} {d8 d9 d10 d11 : Bool} {v8 v9 : Value} {w w' : World}
theorem TwoC.start (W0 : World) (A B : Array Value) (v8 v9 : Value) : TwoC W0 A B false false false false v8 v9 W0 :=
  ⟨Below.refl _ _, fun e => (by cases e), fun e => (by cases e), fun e => (by cases e), fun e => (by cases e), fun e => (by cases e), fun e => (by cases e), fun e => (by cases e)⟩
theorem TwoC.keep (h : TwoC W0 A B d8 d9 d10 d11 v8 v9 w) (hb : Below w.heap.size w w') : TwoC W0 A B d8 d9 d10 d11 v8 v9 w' :=
  ⟨h.bel.trans (hb.mono h.bel.size), fun e => (by obtain ⟨p, e1, e2⟩ := h.b8 e; exact ⟨p, e1, e2.keep hb⟩), fun e => (by obtain ⟨p, e1, e2⟩ := h.b9 e; exact ⟨p, e1, e2.keep hb⟩), h.ne, h.o10, h.o11, h.lo8, h.lo9⟩
theorem TwoC.set8 (h : TwoC W0 A B d8 d9 d10 d11 v8 v9 w) (h8 : d8 = false) : TwoC W0 A B true d9 d10 d11 (.pointer (some ⟨w.heap.size, 0, none⟩)) v9 (w.alloc (.cells #[.int .i64 0, .slice none 0 0, .slice none 0 0] 30)) := by
  have k := h.keep (bnew (Below.refl _ w) (ob := .cells #[.int .i64 0, .slice none 0 0, .slice none 0 0] 30))
  have h10 : d10 = false := by
    cases d10
    · rfl
    · have := h.o10 rfl; rw [h8] at this; cases this
  subst h10
  refine ⟨k.bel, fun _ => ⟨_, rfl, Bx.new _ _ _⟩, k.b9, fun _ e9 p q e1 e2 => ?_, fun e => (by cases e), k.o11, fun _ p e1 => ?_, k.lo9⟩
  · injection e1 with e1; injection e1 with e1; injection e1 with e1
    obtain ⟨q', f1, f2⟩ := h.b9 e9
    rw [e2] at f1
    injection f1 with f1; injection f1 with f1; injection f1 with f1
    have := f2.lt
    omega
  · injection e1 with e1; injection e1 with e1; injection e1 with e1
    have := h.bel.size
    omega
theorem TwoC.set9 (h : TwoC W0 A B d8 d9 d10 d11 v8 v9 w) (h9 : d9 = false) : TwoC W0 A B d8 true d10 d11 v8 (.pointer (some ⟨w.heap.size, 0, none⟩)) (w.alloc (.cells #[.int .i64 0, .slice none 0 0, .slice none 0 0] 30)) := by
  have k := h.keep (bnew (Below.refl _ w) (ob := .cells #[.int .i64 0, .slice none 0 0, .slice none 0 0] 30))
  have h11 : d11 = false := by
    cases d11
    · rfl
    · have := h.o11 rfl; rw [h9] at this; cases this
  subst h11
  refine ⟨k.bel, k.b8, fun _ => ⟨_, rfl, Bx.new _ _ _⟩, fun e8 _ p q e1 e2 => ?_, k.o10, fun e => (by cases e), k.lo8, fun _ p e1 => ?_⟩
  · injection e2 with e2; injection e2 with e2; injection e2 with e2
    obtain ⟨p', f1, f2⟩ := h.b8 e8
    rw [e1] at f1
    injection f1 with f1; injection f1 with f1; injection f1 with f1
    have := f2.lt
    omega
  · injection e1 with e1; injection e1 with e1; injection e1 with e1
    have := h.bel.size
    omega
theorem TwoC.set10 {a0 a1 a2 : Value} (h : TwoC W0 #[a0, a1, a2] B d8 d9 d10 d11 v8 v9 w) {p : Nat} (hv : v8 = .pointer (some ⟨p, 0, none⟩)) (h8 : d8 = true) (h10 : d10 = false) : TwoC W0 #[a0, a1, a2] B d8 d9 true d11 v8 v9 (((w.setCell ⟨p, 0, none⟩ a0).setCell ⟨p, 1, none⟩ a1).setCell ⟨p, 2, none⟩ a2) := by
  subst h10
  obtain ⟨p', e1, e2⟩ := h.b8 h8
  rw [hv] at e1
  injection e1 with e1; injection e1 with e1; injection e1 with e1
  subst e1
  rw [if_neg (by decide)] at e2
  have hp := h.lo8 h8 p hv
  refine ⟨((h.bel.setCell (p := ⟨p, 0, none⟩) hp _).setCell (p := ⟨p, 1, none⟩) hp _).setCell (p := ⟨p, 2, none⟩) hp _, fun _ => ⟨p, hv, ?_⟩, fun e9 => ?_, h.ne, fun _ => h8, h.o11, h.lo8, h.lo9⟩
  · rw [if_pos rfl]
    exact ((e2.set 0 a0).set 1 a1).set 2 a2
  · obtain ⟨q, f1, f2⟩ := h.b9 e9
    have hne := h.ne h8 e9 p q hv f1
    exact ⟨q, f1, ((f2.other _ _ (Ne.symm hne)).other _ _ (Ne.symm hne)).other _ _ (Ne.symm hne)⟩
theorem TwoC.set11 {a0 a1 a2 : Value} (h : TwoC W0 A #[a0, a1, a2] d8 d9 d10 d11 v8 v9 w) {p : Nat} (hv : v9 = .pointer (some ⟨p, 0, none⟩)) (h9 : d9 = true) (h11 : d11 = false) : TwoC W0 A #[a0, a1, a2] d8 d9 d10 true v8 v9 (((w.setCell ⟨p, 0, none⟩ a0).setCell ⟨p, 1, none⟩ a1).setCell ⟨p, 2, none⟩ a2) := by
  subst h11
  obtain ⟨p', e1, e2⟩ := h.b9 h9
  rw [hv] at e1
  injection e1 with e1; injection e1 with e1; injection e1 with e1
  subst e1
  rw [if_neg (by decide)] at e2
  have hp := h.lo9 h9 p hv
  refine ⟨((h.bel.setCell (p := ⟨p, 0, none⟩) hp _).setCell (p := ⟨p, 1, none⟩) hp _).setCell (p := ⟨p, 2, none⟩) hp _, fun e8 => ?_, fun _ => ⟨p, hv, ?_⟩, h.ne, h.o10, fun _ => h9, h.lo8, h.lo9⟩
  · obtain ⟨q, f1, f2⟩ := h.b8 e8
    have hne := h.ne e8 h9 q p f1 hv
    exact ⟨q, f1, ((f2.other _ _ hne).other _ _ hne).other _ _ hne⟩
  · rw [if_pos rfl]
    exact ((e2.set 0 a0).set 1 a1).set 2 a2
end
/-- A curve's three cells, read in a grade's block. -/
theorem curve_cells {W w : World} {p : Nat} {C : Array Value} {g : Gd} (hG : GdAt W C g) (hx : Bx w p 37 C) {j : Nat} {c : Cv} (hc : g.cvs[j]? = some c) :
    ∃ xa xc ua uc, (w.cell? ⟨p, 20 + j * 3, none⟩ = some (.int .i64 c.kind) ∧ w.cell? ⟨p, 20 + j * 3 + 1, none⟩ = some (.slice xa c.xs.length xc) ∧ w.cell? ⟨p, 20 + j * 3 + 2, none⟩ = some (.slice ua c.ys.length uc)) ∧ Sl W (.slice xa c.xs.length xc) c.xs ∧ Sl W (.slice ua c.ys.length uc) c.ys ∧
      C[20 + j * 3]? = some (.int .i64 c.kind) ∧ C[20 + j * 3 + 1]? = some (.slice xa c.xs.length xc) ∧ C[20 + j * 3 + 2]? = some (.slice ua c.ys.length uc) := by
  obtain ⟨a0, ⟨vx, a1, a2⟩, vy, b1, b2⟩ := hG.cvs.2 j c hc
  obtain ⟨xa, xc, rfl⟩ := a2.sl
  obtain ⟨ua, uc, rfl⟩ := b2.sl
  rw [show 20 + 3 * j = 20 + j * 3 by omega] at a0
  rw [show 21 + 3 * j = 20 + j * 3 + 1 by omega] at a1
  rw [show 22 + 3 * j = 20 + j * 3 + 2 by omega] at b1
  exact ⟨xa, xc, ua, uc, ⟨by rw [hx.all.1]; exact a0, by rw [hx.all.1]; exact a1, by rw [hx.all.1]; exact b1⟩, a2, b2, a0, a1, b1⟩

set_option maxRecDepth 100000 in
set_option maxHeartbeats 4000000 in
theorem run_build_gr (k : Int) (u v : Nat) (w : World) : (Instr.build 37 #[(0, .int .i64 k), (5, .float .f32 u), (6, .float .f32 v)]).run Tryz.prog w = .ok (.agg (((zeroGr.setIfInBounds 0 (.int .i64 k)).setIfInBounds 44 (.float .f32 u)).setIfInBounds 45 (.float .f32 v))) w := by
  simp [go_sem]
  rfl
theorem run_build_opG {o : Oper} {a : Act} {w : World} {x y z : Operand} (ho : o.op = .build 37 #[(0, x), (5, y), (6, z)]) {k : Int} {u v : Nat} (hx : a.eval x = .int .i64 k) (hy : a.eval y = .float .f32 u) (hz : a.eval z = .float .f32 v) :
    (execOp a.eval o).run Tryz.prog w = .ok (.value (.agg (((zeroGr.setIfInBounds 0 (.int .i64 k)).setIfInBounds 44 (.float .f32 u)).setIfInBounds 45 (.float .f32 v)))) w := by
  unfold execOp
  simp only [ho, List.map_toArray, List.map_cons, List.map_nil, hx, hy, hz, Sem.run_bind, run_build_gr, Result.andThen_ok, Sem.run_pure]
/-- A grade laid in a new block, under way. -/
structure OneG (W1 : World) (D : Array Value) (dA dS : Bool) (v : Value) (w : World) : Prop where
  bel : Below W1.heap.size W1 w
  at_ : dA = true → ∃ p, v = .pointer (some ⟨p, 0, none⟩) ∧ W1.heap.size ≤ p ∧ Bx w p 37 (if dS then D else zeroGr)
  ord : dS = true → dA = true
section
variable {W1 w w' : World} {D : Array Value} {dA dS : Bool} {v : Value}
theorem OneG.start (h : Below W1.heap.size W1 w) : OneG W1 D false false v w := ⟨h, fun e => (by cases e), fun e => (by cases e)⟩
theorem OneG.keep (h : OneG W1 D dA dS v w) (hb : Below w.heap.size w w') : OneG W1 D dA dS v w' :=
  ⟨h.bel.trans (hb.mono h.bel.size), fun e => (by obtain ⟨p, e1, e2, e3⟩ := h.at_ e; exact ⟨p, e1, e2, e3.keep hb⟩), h.ord⟩
theorem OneG.new (h : OneG W1 D dA dS v w) (hA : dA = false) : OneG W1 D true dS (.pointer (some ⟨w.heap.size, 0, none⟩)) (w.alloc (.cells zeroGr 37)) := by
  have k := h.keep (bnew (Below.refl _ w) (ob := .cells zeroGr 37))
  have hS : dS = false := by
    cases dS
    · rfl
    · have := h.ord rfl; rw [hA] at this; cases this
  subst hS
  exact ⟨k.bel, fun _ => ⟨_, rfl, h.bel.size, Bx.new _ _ _⟩, fun e => (by cases e)⟩
theorem OneG.store (h : OneG W1 D dA dS v w) (hA : dA = true) {p : Nat} (hv : v = .pointer (some ⟨p, 0, none⟩)) (hS : dS = false) (hD : D.size = 49) : OneG W1 D dA true v (w.setRow p D) := by
  subst hS
  obtain ⟨q, e1, e2, e3⟩ := h.at_ hA
  rw [hv] at e1
  injection e1 with e1; injection e1 with e1; injection e1 with e1
  subst e1
  exact ⟨below_setRow h.bel e2 D, fun _ => ⟨p, hv, e2, setRow_heap w p _ D 37 (0, 0) e3⟩, fun _ => hA⟩
end
/-- The grade under way in its block. -/
def OG (W1 : World) (g : Gd) (p : Nat) (S : Nat → Prop) (w : World) : Prop := ∃ D, Bx w p 37 D ∧ PD g S D ∧ Below W1.heap.size W1 w ∧ W1.heap.size ≤ p
def S3 (S : Nat → Prop) (x y z : Bool) (c1 c2 c3 : Nat) : Nat → Prop := fun c => S c ∨ (x = true ∧ c = c1) ∨ (y = true ∧ c = c2) ∨ (z = true ∧ c = c3)
section
variable {W1 w w' : World} {g : Gd} {p : Nat} {S S' : Nat → Prop} {x y z : Bool} {c1 c2 c3 : Nat}
theorem OG.bel (h : OG W1 g p S w) : Below W1.heap.size W1 w := by obtain ⟨D, h1, h2, h3, h4⟩ := h; exact h3
theorem OG.keep (h : OG W1 g p S w) (hb : Below w.heap.size w w') : OG W1 g p S w' := by
  obtain ⟨D, h1, h2, h3, h4⟩ := h
  exact ⟨D, h1.keep hb, h2, h3.trans (hb.mono h3.size), h4⟩
theorem OG.weak (h : OG W1 g p S w) (hs : ∀ c, S' c → S c) : OG W1 g p S' w := by
  obtain ⟨D, h1, h2, h3, h4⟩ := h
  exact ⟨D, h1, h2.weak hs, h3, h4⟩
theorem OG.cell (h : OG W1 g p S w) {c : Nat} (hc : c < 49) : ∃ v, w.cell? ⟨p, c, none⟩ = some v ∧ w.frozen? ⟨p, c, none⟩ = false := by
  obtain ⟨D, h1, h2, h3, h4⟩ := h
  obtain ⟨v, hv⟩ := h2.cell hc
  exact ⟨v, by rw [h1.all.1]; exact hv, h1.all.2.1 c⟩
theorem OG.put (h : OG W1 g p S w) {c : Nat} (hc : c < 49) {v : Value} (hv : tgtF g c = v) : OG W1 g p (fun i => S i ∨ i = c) (w.setCell ⟨p, c, none⟩ v) := by
  obtain ⟨D, h1, h2, h3, h4⟩ := h
  exact ⟨_, h1.set c v, h2.put hc hv.symm, h3.setCell (p := ⟨p, c, none⟩) h4 v, h4⟩
theorem OG.s1 (h : OG W1 g p (S3 S x y z c1 c2 c3) w) (hc : c1 < 49) {v : Value} (hv : tgtF g c1 = v) : OG W1 g p (S3 S true y z c1 c2 c3) (w.setCell ⟨p, c1, none⟩ v) :=
  (h.put hc hv).weak fun c hs => by rcases hs with h | ⟨_, h⟩ | h | h <;> (first | exact .inl (.inl h) | exact .inr h | exact .inl (.inr (.inr (.inl h))) | exact .inl (.inr (.inr (.inr h))))
theorem OG.s2 (h : OG W1 g p (S3 S x y z c1 c2 c3) w) (hc : c2 < 49) {v : Value} (hv : tgtF g c2 = v) : OG W1 g p (S3 S x true z c1 c2 c3) (w.setCell ⟨p, c2, none⟩ v) :=
  (h.put hc hv).weak fun c hs => by rcases hs with h | h | ⟨_, h⟩ | h <;> (first | exact .inl (.inl h) | exact .inl (.inr (.inl h)) | exact .inr h | exact .inl (.inr (.inr (.inr h))))
theorem OG.s3 (h : OG W1 g p (S3 S x y z c1 c2 c3) w) (hc : c3 < 49) {v : Value} (hv : tgtF g c3 = v) : OG W1 g p (S3 S x y true c1 c2 c3) (w.setCell ⟨p, c3, none⟩ v) :=
  (h.put hc hv).weak fun c hs => by rcases hs with h | h | h | ⟨_, h⟩ <;> (first | exact .inl (.inl h) | exact .inl (.inr (.inl h)) | exact .inl (.inr (.inr (.inl h))) | exact .inr h)
end

theorem OG.s0 {W1 w : World} {g : Gd} {p : Nat} {S : Nat → Prop} {c1 c2 c3 : Nat} (h : OG W1 g p S w) : OG W1 g p (S3 S false false false c1 c2 c3) w :=
  h.weak fun c hs => by rcases hs with h | ⟨h, _⟩ | ⟨h, _⟩ | ⟨h, _⟩ <;> first | exact h | cases h
theorem OG.sF {W1 w : World} {g : Gd} {p : Nat} {S : Nat → Prop} {c1 c2 c3 : Nat} (h : OG W1 g p (S3 S true true true c1 c2 c3) w) : OG W1 g p (fun c => S c ∨ c = c1 ∨ c = c2 ∨ c = c3) w :=
  h.weak fun c hs => by rcases hs with h | h | h | h <;> first | exact .inl h | exact .inr (.inl ⟨rfl, h⟩) | exact .inr (.inr (.inl ⟨rfl, h⟩)) | exact .inr (.inr (.inr ⟨rfl, h⟩))
def SK (k c : Nat) : Prop := c = 0 ∨ c = 44 ∨ c = 45 ∨ (1 ≤ c ∧ c < 1 + k) ∨ (4 ≤ c ∧ c < 4 + k) ∨ (7 ≤ c ∧ c < 7 + k) ∨ (10 ≤ c ∧ c < 10 + k) ∨ (13 ≤ c ∧ c < 13 + k) ∨ (16 ≤ c ∧ c < 16 + k) ∨ (46 ≤ c ∧ c < 46 + k)

theorem OG.sF1 {W1 w : World} {g : Gd} {p : Nat} {S : Nat → Prop} {c1 c2 c3 : Nat} (h : OG W1 g p (S3 S true false false c1 c2 c3) w) : OG W1 g p (fun c => S c ∨ c = c1) w :=
  h.weak fun c hs => by rcases hs with h | h <;> first | exact .inl h | exact .inr (.inl ⟨rfl, h⟩)
def SM (k c : Nat) : Prop := SK 3 c ∨ c = 19 ∨ (32 ≤ c ∧ c < 32 + k)
def S20 (c : Nat) : Prop := c < 20 ∨ (32 ≤ c ∧ c < 49)
/-- The grade under way, its first m curves laid. -/
def OC (W1 : World) (g : Gd) (p m : Nat) (w : World) : Prop := ∃ D, Bx w p 37 D ∧ PD g S20 D ∧ CR W1.heap.size g m D w ∧ Below W1.heap.size W1 w ∧ W1.heap.size ≤ p
section
variable {W1 w w' : World} {g : Gd} {p m : Nat}
theorem OC.start (h : OG W1 g p (SM 12) w) : OC W1 g p 0 w := by
  obtain ⟨D, h1, h2, h3, h4⟩ := h
  exact ⟨D, h1, h2.weak (fun c hc => by unfold S20 at hc; unfold SM SK; omega), ⟨fun i hi => (by omega), fun i hi => (by omega), fun i hi => (by omega)⟩, h3, h4⟩
theorem OC.bel (h : OC W1 g p m w) : Below W1.heap.size W1 w := by obtain ⟨D, h1, h2, h3, h4, h5⟩ := h; exact h4
theorem OC.keep (h : OC W1 g p m w) (hb : Below w.heap.size w w') : OC W1 g p m w' := by
  obtain ⟨D, h1, h2, h3, h4, h5⟩ := h
  exact ⟨D, h1.keep hb, h2, h3.keep hb, h4.trans (hb.mono h4.size), h5⟩
theorem OC.cell (h : OC W1 g p m w) {c : Nat} (hc : c < 49) : ∃ v, w.cell? ⟨p, c, none⟩ = some v ∧ w.frozen? ⟨p, c, none⟩ = false := by
  obtain ⟨D, h1, h2, h3, h4, h5⟩ := h
  obtain ⟨v, hv⟩ := h2.cell hc
  exact ⟨v, by rw [h1.all.1]; exact hv, h1.all.2.1 c⟩
theorem OC.put (h : OC W1 g p m w) (hm : m < 4) {k : Int} {v u : Value} (hk : k = (cvAt g m).kind) (hv : OwF W1.heap.size w v (cvAt g m).xs) (hu : OwF W1.heap.size w u (cvAt g m).ys) :
    OC W1 g p (m + 1) (((w.setCell ⟨p, 20 + m * 3, none⟩ (.int .i64 k)).setCell ⟨p, 20 + m * 3 + 1, none⟩ v).setCell ⟨p, 20 + m * 3 + 2, none⟩ u) := by
  obtain ⟨D, h1, h2, h3, h4, h5⟩ := h
  have n0 : ¬ S20 (20 + m * 3) := by unfold S20; omega
  have n1 : ¬ S20 (20 + m * 3 + 1) := by unfold S20; omega
  have n2 : ¬ S20 (20 + m * 3 + 2) := by unfold S20; omega
  have hs := h2.size
  have ow : ∀ (x : Value) (xs : List Nat), OwF W1.heap.size w x xs → OwF W1.heap.size (((w.setCell ⟨p, 20 + m * 3, none⟩ (.int .i64 k)).setCell ⟨p, 20 + m * 3 + 1, none⟩ v).setCell ⟨p, 20 + m * 3 + 2, none⟩ u) x xs := fun x xs hx =>
    ((hx.put h1 (by decide)).put (h1.set _ _) (by decide)).put ((h1.set _ _).set _ _) (by decide)
  have gt : ∀ j, j ≠ 20 + m * 3 → j ≠ 20 + m * 3 + 1 → j ≠ 20 + m * 3 + 2 → (((D.setIfInBounds (20 + m * 3) (.int .i64 k)).setIfInBounds (20 + m * 3 + 1) v).setIfInBounds (20 + m * 3 + 2) u)[j]? = D[j]? := fun j e0 e1 e2 => by
    rw [Array.getElem?_setIfInBounds_ne (Ne.symm e2), Array.getElem?_setIfInBounds_ne (Ne.symm e1), Array.getElem?_setIfInBounds_ne (Ne.symm e0)]
  refine ⟨_, ((h1.set _ (.int .i64 k)).set _ v).set _ u, ((h2.other n0 (by simp [Value.oneCell'])).other n1 hv.one).other n2 hu.one, ⟨fun i hi => ?_, fun i hi => ?_, fun i hi => ?_⟩, ((h4.setCell (p := ⟨p, _, none⟩) h5 _).setCell (p := ⟨p, _, none⟩) h5 _).setCell (p := ⟨p, _, none⟩) h5 _, h5⟩
  · by_cases e : i = m
    · subst e
      rw [Array.getElem?_setIfInBounds_ne (by omega), Array.getElem?_setIfInBounds_ne (by omega), Array.getElem?_setIfInBounds_self_of_lt (by omega), hk]
    · rw [gt _ (by omega) (by omega) (by omega)]; exact h3.kind i (by omega)
  · by_cases e : i = m
    · subst e
      exact ⟨v, by rw [Array.getElem?_setIfInBounds_ne (by omega), Array.getElem?_setIfInBounds_self_of_lt (by simp; omega)], ow _ _ hv⟩
    · obtain ⟨x, x1, x2⟩ := h3.xs i (by omega)
      exact ⟨x, by rw [gt _ (by omega) (by omega) (by omega)]; exact x1, ow _ _ x2⟩
  · by_cases e : i = m
    · subst e
      exact ⟨u, by rw [Array.getElem?_setIfInBounds_self_of_lt (by simp; omega)], ow _ _ hu⟩
    · obtain ⟨x, x1, x2⟩ := h3.ys i (by omega)
      exact ⟨x, by rw [gt _ (by omega) (by omega) (by omega)]; exact x1, ow _ _ x2⟩
end
theorem lerpL_snoc {t k : Nat} {xs ys : List Nat} (h : xs.length = ys.length) (hk : k < xs.length) : (lerpL t xs ys).take (k + 1) = (lerpL t xs ys).take k ++ [lerpV (xs.getD k 0) (ys.getD k 0) t] := by
  have hl : (lerpL t xs ys).length = xs.length := by unfold lerpL; rw [List.length_zipWith]; omega
  rw [← lerpL_at h hk, List.take_succ_eq_append_getElem (by omega), List.getD_eq_getElem?_getD, List.getElem?_eq_getElem (show k < (lerpL t xs ys).length by omega)]
  rfl
end
end Go.Proofs.YtpmbmpfkoffioaaGreatDoor
