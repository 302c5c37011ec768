/- key.around over a matte of shares of 1024, for whatever closure that gathers a list. -/
import Derived.Test.YtoffnmpnhddaiaaMtI
import Derived.OwnWalk
import Derived.Test.YtoffnmpnhddaiaaMade
namespace Go.Proofs.Ytoffnmpnhddaiaa
open Go.RowKit

/-- A closure that makes a share of a list of shares. -/
structure Gath (cf : FuncId) (op : List Nat → Nat) : Prop where
  enter : ∀ (args : Array Value) (u : World), (callFunc cf args).run Try.prog u = .ok (.enter cf args) u
  gives : ∀ (zs : List Nat) (b n c : Nat) (u : World), zs.length = n → 0 < n → n ≤ 10000 → (∀ z ∈ zs, z ≤ 1024) → Rd u b 0 (zs.map qW) → Calls Try.prog cf #[.slice (some ⟨b, 0, none⟩) n c] u fun e u' => e = .returned (.float .f32 (qW (op zs))) ∧ u = u'
  bound : ∀ zs, zs ≠ [] → (∀ z ∈ zs, z ≤ 1024) → op zs ≤ 1024

def gridL (w h : Nat) (A : Nat → Nat → Nat) : List Nat := (List.range (w * h)).map fun i => A (i % w) (i / w)
theorem gridL_len (w h : Nat) (A : Nat → Nat → Nat) : (gridL w h A).length = w * h := by simp [gridL]
theorem gridL_at (w h : Nat) (A : Nat → Nat → Nat) (k : Nat) (hk : k < w * h) : (gridL w h A).getD k 0 = A (k % w) (k / w) := by simp [gridL, hk]

theorem infoF2 : (Try.prog.info? 33).map (fun i => (i.zero, i.size, i.bytes)) = some (some (.float .f32 0), 1, 4) := by kernel_rfl
/-- make([]float32, 0, n). -/
theorem run_makeF0 (w : World) (N : Nat) (hN : N ≤ 1000000) :
    (Instr.makeSlice 24 (.int .i64 0) (.int .i64 (N : Int))).run Try.prog w = .ok (.slice (some ⟨w.heap.size, 0, none⟩) 0 N) (w.alloc (.cells (madeCells #[.float .f32 0] N) 33)) := by
  obtain ⟨i0, hi, hz0, hz1, hz2⟩ := info_parts infoF2
  have := run_make (P := Try.prog) w 24 33 i0 (.float .f32 0) Try.underlying24 hi hz0 .i64 .i64 0 N (by omega) (by omega) (by rw [hz2]; omega) (by omega)
  rw [this, hz1]
  simp [Value.cells]

/-- What around keeps: k places are done, l holds m values. -/
def AI (W : World) (C0 C9 C5 : Array Value) (p9 p5 gl go S N : Nat) (F : Nat → Nat) (k m : Nat) (L : List Nat) (wr : World) : Prop :=
  Bx wr W.heap.size 62 C0 ∧ Bx wr (W.heap.size + 1) 62 #[.int .i64 0, .int .i64 0, .int .i64 0, .int .i64 0, .slice none 0 0] ∧ Bx wr p9 23 C9 ∧ Bx wr p5 62 C5 ∧
  Row wr go N (fillTo N k F) ∧ wr.ownsRow gl 33 1 (.slice (some ⟨gl, 0, none⟩) m S) m (L.map (Value.float .f32)) ∧ Below W.heap.size W wr
/-- The blocks are apart. -/
structure Apart5 (B p9 p5 gl go : Nat) : Prop where
  a : B + 1 < p9
  b : p9 < gl
  c : gl < p5
  d : gl < go
  e : p5 ≠ go
theorem AI.keep {W : World} {C0 C9 C5 : Array Value} {p9 p5 gl go S N : Nat} {F : Nat → Nat} {k m : Nat} {L : List Nat} {wr wx : World} (h : AI W C0 C9 C5 p9 p5 gl go S N F k m L wr) (hb : Below wr.heap.size wr wx) : AI W C0 C9 C5 p9 p5 gl go S N F k m L wx := by
  obtain ⟨h1, h2, h3, h4, h5, h6, h7⟩ := h
  exact ⟨h1.keep hb, h2.keep hb, h3.keep hb, h4.keep hb, h5.keep hb, own_below h6 hb, bcall h7 hb⟩
theorem AI.reset {W : World} {C0 C9 C5 : Array Value} {p9 p5 gl go S N : Nat} {F : Nat → Nat} {k m : Nat} {L : List Nat} {wr : World} (h : AI W C0 C9 C5 p9 p5 gl go S N F k m L wr) : AI W C0 C9 C5 p9 p5 gl go S N F k 0 [] wr := by
  obtain ⟨h1, h2, h3, h4, h5, h6, h7⟩ := h
  refine ⟨h1, h2, h3, h4, h5, ?_, h7⟩
  rcases h6.2 with ⟨h0, _⟩ | ⟨g, cap, cur, e1, e2, e3, e4, e5, e6, e7⟩
  · cases h0
  · obtain ⟨rfl, _, rfl⟩ : gl = g ∧ m = m ∧ S = cap := by simpa using e1
    exact ⟨rfl, .inr ⟨gl, S, cur, rfl, e2, e3, Nat.zero_le _, e5, e6, by simp⟩⟩
theorem AI.app {W : World} {C0 C9 C5 : Array Value} {p9 p5 gl go S N : Nat} {F : Nat → Nat} {k m m' : Nat} {L L' : List Nat} {wr w' : World} (hap : Apart5 W.heap.size p9 p5 gl go) (h : AI W C0 C9 C5 p9 p5 gl go S N F k m L wr) (hg : wr.grownBy w' (some gl))
    (ho : w'.ownsRow gl 33 1 (.slice (some ⟨gl, 0, none⟩) m' S) m' (L'.map (Value.float .f32))) : AI W C0 C9 C5 p9 p5 gl go S N F k m' L' w' := by
  obtain ⟨h1, h2, h3, h4, h5, h6, h7⟩ := h
  obtain ⟨a, b, c, d, e⟩ := hap
  refine ⟨h1.grown hg (fun e => by cases e; omega), h2.grown hg (fun e => by cases e; omega), h3.grown hg (fun e => by cases e; omega), h4.grown hg (fun e => by cases e; omega), ?_, ho, h7.grown hg h7.size (fun k hk => by cases hk; omega)⟩
  obtain ⟨hl, cur, g1, g2⟩ := h5
  exact ⟨hl, cur, by rw [hg.block go (Array.getElem?_eq_some_iff.1 g1).1 (fun e => by cases e; omega)]; exact g1, g2⟩
theorem own_other {w : World} {B b o g n c : Nat} {e : TypeId} {s : Nat} {u : Value} {xs : List Value} (h : w.ownsRow B e s (.slice (some ⟨g, 0, none⟩) n c) n xs) (hb : b ≠ g) : (w.setCell ⟨b, o, none⟩ u).ownsRow B e s (.slice (some ⟨g, 0, none⟩) n c) n xs := by
  refine ⟨h.1, ?_⟩
  rcases h.2 with ⟨h0, _⟩ | ⟨g', cap, cur, e1, e2, e3, e4⟩
  · cases h0
  · obtain ⟨rfl, _, _⟩ : g = g' ∧ n = n ∧ c = cap := by simpa using e1
    exact .inr ⟨_, cap, cur, e1, e2, by rw [Below.heap_setCell _ _ _ _ hb.symm]; exact e3, e4⟩
theorem AI.store {W : World} {C0 C9 C5 : Array Value} {p9 p5 gl go S N : Nat} {F : Nat → Nat} {k m : Nat} {L : List Nat} {wr : World} (hap : Apart5 W.heap.size p9 p5 gl go) (h : AI W C0 C9 C5 p9 p5 gl go S N F k m L wr) (hk : k < N) (v : Nat) (hv : v = F k) :
    AI W C0 C9 C5 p9 p5 gl go S N F (k + 1) m L (wr.setCell ⟨go, k, none⟩ (.float .f32 v)) := by
  obtain ⟨h1, h2, h3, h4, h5, h6, h7⟩ := h
  obtain ⟨a, b, c, d, e⟩ := hap
  subst hv
  refine ⟨h1.other _ _ (by dsimp only; omega), h2.other _ _ (by dsimp only; omega), h3.other _ _ (by dsimp only; omega), h4.other _ _ (by dsimp only; omega), ?_, own_other h6 (by omega), bput (by omega) h7⟩
  have := h5.store k (F k)
  rwa [fillTo_set N k F hk] at this

set_option maxRecDepth 100000 in
set_option maxHeartbeats 4000000 in
theorem key_around (x y : Int) (w h r pw ph s S N M b c : Nat) (A : Nat → Nat → Nat) (cf : FuncId) (op : List Nat → Nat) (W : World) (hck : checkMatte x y w h M = 0) (hM : M = w * h) (hr : r ≤ 16) (hx1 : -2000 ≤ x) (hx2 : x ≤ 2000) (hy1 : -2000 ≤ y) (hy2 : y ≤ 2000)
    (hw : w ≤ 256) (hh : h ≤ 256) (hpw : w = pw + 2 * r) (hph : h = ph + 2 * r) (hp1 : 1 ≤ pw) (hp2 : 1 ≤ ph) (hs : s = 2 * r + 1) (hS : S = s * s) (hN : N = pw * ph) (hA : ∀ x y, A x y ≤ 1024) (hG : Gath cf op) (hMc : M ≤ c) (hrd : Rd W b 0 ((gridL w h A).map qW)) :
    Calls Try.prog 110 #[.agg #[.int .i64 x, .int .i64 y, .int .i64 w, .int .i64 h, .slice (some ⟨b, 0, none⟩) M c], .int .i64 r, .func (.func cf) #[] #[]] W fun e w' =>
      ∃ g, e = .returned (.tuple #[.agg #[.int .i64 (x + r), .int .i64 (y + r), .int .i64 pw, .int .i64 ph, .slice (some ⟨g, 0, none⟩) N N], .int .i64 0]) ∧ W.heap.size ≤ g ∧ Row w' g N ((gridL pw ph fun x y => op (win s A x y)).map qW) ∧ Below W.heap.size W w' := by
  have hS2 : s ≤ 33 := by omega
  have hSb : S ≤ 1089 := by rw [hS]; exact Nat.mul_le_mul hS2 hS2
  have hNb : N ≤ 65536 := by rw [hN]; exact Nat.mul_le_mul (show pw ≤ 256 by omega) (show ph ≤ 256 by omega)
  have hmk := fun w => run_makeF w N (by omega)
  have hmk0 := fun w => run_makeF0 w S (by omega)
  have hsp : 0 < s := by omega
  have hr0 : decide ((r : Int) < 0) = false := by simp
  have hr1 : decide (16 < (r : Int)) = false := by simp; omega
  have he1 : (w : Int) - 2 * (r : Int) = (pw : Int) := by omega
  have he2 : (h : Int) - 2 * (r : Int) = (ph : Int) := by omega
  have he3 : 2 * (r : Int) + 1 = (s : Int) := by omega
  have hSS : wrap64 ((s : Int) * (s : Int)) = (S : Int) := by rw [wrap_mul s s (by omega) (by omega) (by omega) (by omega), hS]; rfl
  have hNN : wrap64 ((pw : Int) * (ph : Int)) = (N : Int) := by rw [wrap_mul pw ph (by omega) (by omega) (by omega) (by omega), hN]; rfl
  have He := Lib.hid (And.intro he1 (And.intro he2 (And.intro he3 (And.intro hSS hNN))))
  have Hh := Lib.hid (And.intro hM (And.intro hpw (And.intro hph (And.intro hs (And.intro hS (And.intro hN hA))))))
  clear hM hpw hph hs hS hN hA he1 he2 he3 hSS hNN
  have hbW := hrd.lt
  go_enter Try.func110, Try.ntmps110
  go_wp2_with fail
  refine (key_CheckMatte _ _ _ _ _ _ _ _).mono ?_
  rw [hck]
  rintro e w1 ⟨rfl, hb1⟩
  have x0 := ((Bx.new W _ _).alloc _).keep hb1
  have x2 := (Bx.at (w := W.alloc (.cells #[.int .i64 x, .int .i64 y, .int .i64 w, .int .i64 h, .slice (some ⟨b, 0, none⟩) M c] 62)) (T := 62) (cs := #[.int .i64 0, .int .i64 0, .int .i64 0, .int .i64 0, .slice none 0 0]) (W.heap.size + 1) (by simp)).keep hb1
  have B1 := bcall (bnew (bnew (Below.refl _ W))) hb1
  clear hb1 hck
  obtain ⟨q0, f0, l0⟩ := x0.all
  have l2 := x2.lt
  go_upto_region 7 with fail
  rw [He.out.1, He.out.2.1]
  have hd1 : decide ((pw : Int) < 1) = false := by simp; omega
  have hd2 : decide ((ph : Int) < 1) = false := by simp; omega
  refine name_world ?_
  intro w2 hw2
  have E2 : Below w1.heap.size w1 w2 := by rw [hw2]; exact bnew (Below.refl _ _)
  have x9 : Bx w2 w1.heap.size 23 #[.int .i64 (x + r), .int .i64 (y + r), .int .i64 pw, .int .i64 ph] := by rw [hw2]; exact Bx.new _ _ _
  have y0 := x0.keep E2
  have y2 := x2.keep E2
  have B2 := bcall B1 E2
  clear hw2 x0 x2 E2 q0 f0 l0 B1
  generalize w1.heap.size = p9 at *
  obtain ⟨q9, f9, l9⟩ := x9.all
  go_upto_region 10 with fail
  rw [He.out.2.2.1]
  have hSS := He.out.2.2.2.1
  go_upto_region 11 with fail
  clear hSS
  refine name_world ?_
  intro w3 hw3
  have E3 : Below w2.heap.size w2 w3 := by rw [hw3]; exact bnew (Below.refl _ _)
  have own3 : w3.ownsRow w2.heap.size 33 1 (.slice (some ⟨w2.heap.size, 0, none⟩) 0 S) 0 [] := by rw [hw3]; exact World.ownsRow_made w2 _ S (Nat.le_refl _) (by unfold maxLen; omega) (by simp [madeCells])
  have z0 := y0.keep E3
  have z2 := y2.keep E3
  have z9 := x9.keep E3
  have B3 := bcall B2 E3
  have hl3 := E3.size
  have hl4 : w2.heap.size < w3.heap.size := by rw [hw3]; simp
  clear hw3 y0 y2 x9 E3 B2 q9 f9
  generalize w2.heap.size = gl at *
  obtain ⟨q9, f9, l9b⟩ := z9.all
  have hNN := He.out.2.2.2.2
  go_region
  all_goals clear hNN
  all_goals go_wp2_with fail
  all_goals
    refine name_world ?_
    intro wb hwb
    have E4 : Below w3.heap.size w3 wb := by rw [hwb]; exact (bnew (bnew (Below.refl _ w3))).drew
  all_goals first
    | (have x5 : Bx wb (w3.heap.size + 1) 62 #[.int .i64 (x + r), .int .i64 (y + r), .int .i64 pw, .int .i64 ph, .slice (some ⟨w3.heap.size, 0, none⟩) N N] := by rw [hwb]; exact Bx.drewN (Bx.at _ (by simp)) 1
       have row : Row wb w3.heap.size N (List.replicate N 0) := by rw [hwb]; exact Row.drewN (Row.alloc (row_at _ _ _ (by simp)) _) 1
       have hap : Apart5 W.heap.size p9 (w3.heap.size + 1) gl w3.heap.size := ⟨by omega, by omega, by omega, by omega, by omega⟩
       clear hwb
       generalize hp5 : w3.heap.size + 1 = p5 at x5 hap ⊢
       clear hp5
       generalize hpg : w3.heap.size = go at row hap x5 ⊢)
    | (have x5 : Bx wb w3.heap.size 62 #[.int .i64 (x + r), .int .i64 (y + r), .int .i64 pw, .int .i64 ph, .slice (some ⟨w3.heap.size + 1, 0, none⟩) N N] := by rw [hwb]; exact Bx.drewN (Bx.alloc (Bx.at _ (by simp)) _) 1
       have row : Row wb (w3.heap.size + 1) N (List.replicate N 0) := by rw [hwb]; exact Row.drewN (row_at _ _ _ (by simp)) 1
       have hap : Apart5 W.heap.size p9 w3.heap.size gl (w3.heap.size + 1) := ⟨by omega, by omega, by omega, by omega, by omega⟩
       clear hwb
       generalize hpg : w3.heap.size + 1 = go at row hap x5 ⊢
       clear hpg
       generalize hp5 : w3.heap.size = p5 at x5 hap ⊢)
  all_goals
    try clear hpg
    try clear hp5
    obtain ⟨F, hF⟩ : ∃ F : Nat → Nat, F = fun k => qW (op (win s A (k % pw) (k / pw))) := ⟨_, rfl⟩
    have HF := Lib.hid hF
    have ai0 : AI W #[.int .i64 x, .int .i64 y, .int .i64 w, .int .i64 h, .slice (some ⟨b, 0, none⟩) M c] #[.int .i64 (x + r), .int .i64 (y + r), .int .i64 pw, .int .i64 ph] #[.int .i64 (x + r), .int .i64 (y + r), .int .i64 pw, .int .i64 ph, .slice (some ⟨go, 0, none⟩) N N] p9 p5 gl go S N F 0 0 [] wb :=
      ⟨z0.keep E4, z2.keep E4, z9.keep E4, x5, by rw [fillTo_zero]; exact row, own_below own3 E4, bcall B3 E4⟩
    clear z0 z2 z9 x5 row own3 B3 E4 q9 f9 hF hl3 hl4 l9 l9b l2 hmk hmk0
    clear w3 w2 w1
    go_loopw [11, 79] (fun l i wr => ∃ k m L, k ≤ N ∧ i = .int .i64 (k : Nat) ∧ l = .slice (some ⟨gl, 0, none⟩) m S ∧ AI W #[.int .i64 x, .int .i64 y, .int .i64 w, .int .i64 h, .slice (some ⟨b, 0, none⟩) M c] #[.int .i64 (x + r), .int .i64 (y + r), .int .i64 pw, .int .i64 ph] #[.int .i64 (x + r), .int .i64 (y + r), .int .i64 pw, .int .i64 ph, .slice (some ⟨go, 0, none⟩) N N] p9 p5 gl go S N F k m L wr) (fun _ i _ => N - (intOf i).toNat)
    case atStart => exact ⟨0, 0, [], by omega, rfl, rfl, ai0⟩
    case round =>
      clear ai0
      obtain ⟨k, m, L, hk, rfl, rfl, ai⟩ := hrel
      by_cases hlt : k < N
      · have hki : (k : Int) < (N : Int) := by omega
        obtain ⟨xx, hxx⟩ : ∃ xx, xx = k % pw := ⟨_, rfl⟩
        obtain ⟨yy, hyy⟩ : ∃ yy, yy = k / pw := ⟨_, rfl⟩
        have hx9 : xx < pw := by rw [hxx]; exact Nat.mod_lt _ (by omega)
        have hy9 : yy < ph := by rw [hyy]; exact (Nat.div_lt_iff_lt_mul (by omega)).2 (by have := Hh.out.2.2.2.2.2.1; rw [Nat.mul_comm]; omega)
        have hkx : (k : Int) % (pw : Int) = (xx : Int) := by rw [hxx]; rfl
        have hky : (k : Int) / (pw : Int) = (yy : Int) := by rw [hyy]; rfl
        have HX := Lib.hid (And.intro hxx (And.intro hyy (And.intro hkx hky)))
        clear hxx hyy hkx hky
        have ai1 := ai.reset
        obtain ⟨q5, f5, l5⟩ := ai.2.2.2.1.all
        clear ai
        go_wp2_with fail
        go_loopw [11, 85] (fun l j wr => ∃ q, q ≤ s ∧ j = .int .i64 (q : Nat) ∧ l = .slice (some ⟨gl, 0, none⟩) (q * s) S ∧ AI W #[.int .i64 x, .int .i64 y, .int .i64 w, .int .i64 h, .slice (some ⟨b, 0, none⟩) M c] #[.int .i64 (x + r), .int .i64 (y + r), .int .i64 pw, .int .i64 ph] #[.int .i64 (x + r), .int .i64 (y + r), .int .i64 pw, .int .i64 ph, .slice (some ⟨go, 0, none⟩) N N] p9 p5 gl go S N F k (q * s) ((List.range (q * s)).map fun n => qW (A (xx + n % s) (yy + n / s))) wr) (fun _ j _ => s - (intOf j).toNat)
        case atStart => exact ⟨0, by omega, rfl, by rw [Nat.zero_mul], by rw [Nat.zero_mul]; exact ai1⟩
        case round =>
          clear ai1 q5 f5 l5
          obtain ⟨q, hq, rfl, rfl, ai⟩ := hrel
          by_cases hlt2 : q < s
          · have hqi : (q : Int) < (s : Int) := by omega
            obtain ⟨q0, f0, l0⟩ := ai.1.all
            obtain ⟨q9, f9, l9⟩ := ai.2.2.1.all
            have hown := ai.2.2.2.2.2.1
            have hB := ai.2.2.2.2.2.2
            have hrd2 := hrd.keep hB
            obtain ⟨fr, hfr⟩ : ∃ fr, fr = (yy + q) * w + xx := ⟨_, rfl⟩
            have hh1 := Hh.out
            have hMb : M ≤ 65536 := by rw [hh1.1]; exact Nat.mul_le_mul (show w ≤ 256 by omega) (show h ≤ 256 by omega)
            obtain ⟨i0, hi, hz0, hz1, hz2⟩ := info_parts infoF2
            have hfr2 : fr + s ≤ M := by
              obtain ⟨e1, e2, e3, e4, _⟩ := hh1
              rw [e1, hfr]
              have : (yy + q + 1) * w ≤ h * w := Nat.mul_le_mul_right w (by omega)
              rw [Nat.succ_mul] at this
              rw [Nat.mul_comm w h]
              omega
            have hnb1 : (0 : Int) ≤ ((yy : Int) + (q : Int)) * (w : Int) := Int.mul_nonneg (by omega) (by omega)
            have hnb2 : ((yy : Int) + (q : Int)) * (w : Int) ≤ 100000 := by
              have : ((yy : Int) + (q : Int)) * (w : Int) ≤ 300 * 256 := Int.mul_le_mul (by omega) (by omega) (by omega) (by omega)
              omega
            have hfi : ((yy : Int) + (q : Int)) * (w : Int) + (xx : Int) = (fr : Int) := by rw [hfr]; push_cast; rfl
            have hqs : q * s + s ≤ S := by
              obtain ⟨_, _, _, _, e5, _⟩ := hh1
              rw [e5, ← Nat.succ_mul]; exact Nat.mul_le_mul_right s (by omega)
            have hw15 : wrap64 (wrap64 (wrap64 (wrap64 (yy : Int) + (q : Int)) * (w : Int)) + (xx : Int)) = (fr : Int) := by
              rw [IntWalk.wrap64_in (yy : Int) ⟨by omega, by omega⟩, IntWalk.wrap64_in ((yy : Int) + (q : Int)) ⟨by omega, by omega⟩, IntWalk.wrap64_in (((yy : Int) + (q : Int)) * (w : Int)) ⟨by omega, by omega⟩, IntWalk.wrap64_in (((yy : Int) + (q : Int)) * (w : Int) + (xx : Int)) ⟨by omega, by omega⟩, hfi]
            have HF2 := Lib.hid (And.intro hfr hw15)
            clear hw15
            clear hh1 hfr hfi
            have hkx := HX.out.2.2.1
            have hky := HX.out.2.2.2
            go_wp2_with fail
            go_quiet (fail)
            clear hkx hky
            rw [HF2.out.2]
            obtain ⟨fe, hfe⟩ : ∃ fe, fe = fr + s := ⟨_, rfl⟩
            have hfe1 : fr ≤ fe := by omega
            have hfe2 : fe ≤ c := by omega
            have hfei : (fr : Int) + (s : Int) = (fe : Int) := by omega
            have hfes : fe - fr = s := by omega
            have hfM : fe ≤ M := by omega
            have hfe3 : fe ≤ 65536 := by omega
            clear hfe hfr2
            have hcell : ∀ j, j < s → wr.cell? ⟨b, fr + j, none⟩ = some (.float .f32 (qW (A (xx + j) (yy + q)))) := by
              intro j hj
              obtain ⟨e1, e2, e3, e4, e5, e6, e7⟩ := Hh.out
              have h1 := hrd2.cell0 (fr + j) (by rw [List.length_map, gridL_len, ← e1]; omega)
              have hfl : fr + j < w * h := by rw [← e1]; omega
              rw [map_getD _ _ (by rw [gridL_len]; exact hfl), gridL_at _ _ _ _ hfl, HF2.out.1] at h1
              rw [show ((yy + q) * w + xx + j) % w = xx + j by rw [Nat.add_assoc, Nat.mul_comm, Nat.mul_add_mod, Nat.mod_eq_of_lt (by omega)], show ((yy + q) * w + xx + j) / w = yy + q by rw [Nat.add_assoc, Nat.mul_comm, Nat.mul_add_div (by omega), Nat.div_eq_of_lt (by omega), Nat.add_zero]] at h1
              rw [HF2.out.1]
              exact h1
            have HC := Lib.hid hcell
            clear hcell hrd2
            have hownd : (wr.drewN nq).ownsRow gl 33 1 (.slice (some ⟨gl, 0, none⟩) (q * s) S) (q * s) _ := hown
            go_wp2_with (at_builtin; refine wpList_append_fits (wr.drewN nq) rfl (.tmp 103) (.tmp 110) 24 rfl gl 33 i0 1 Try.underlying24 hi hz1 gl (q * s) S _ rfl hownd ⟨b, fr, none⟩ s (c - fr) ((List.range s).map fun j => Value.float .f32 (qW (A (xx + j) (yy + q)))) rfl (by simp) ?c1 ?c2 hqs ?_)
            case c1 =>
              intro j u hu
              simp only [List.getElem?_map, Option.map_eq_some_iff] at hu
              obtain ⟨j', hj', rfl⟩ := hu
              rw [List.getElem?_eq_some_iff] at hj'
              obtain ⟨hj1, hj2⟩ := hj'
              simp at hj1 hj2
              subst hj2
              have hcj := HC.out j hj1
              by_cases h0 : j = 0
              · subst h0; simpa [go_sem, Addr.add] using hcj
              · simpa [go_sem, Addr.add, h0] using hcj
            case c2 => intro u hu; simp at hu; obtain ⟨j, _, rfl⟩ := hu; rfl
            · intro w5 hown5 hgrow
              have ai5 : AI W #[.int .i64 x, .int .i64 y, .int .i64 w, .int .i64 h, .slice (some ⟨b, 0, none⟩) M c] #[.int .i64 (x + r), .int .i64 (y + r), .int .i64 pw, .int .i64 ph] #[.int .i64 (x + r), .int .i64 (y + r), .int .i64 pw, .int .i64 ph, .slice (some ⟨go, 0, none⟩) N N] p9 p5 gl go S N F k (q * s + s) ((List.range (q * s + s)).map fun n => qW (A (xx + n % s) (yy + n / s))) w5 := by
                refine AI.app hap (ai.keep (below_drewN (Below.refl _ _) nq)) hgrow ?_
                rw [List.range_add, List.map_append, List.map_append, List.map_map (l := List.range s), List.map_map]
                have he : ((List.range s).map ((fun n => qW (A (xx + n % s) (yy + n / s))) ∘ fun x => q * s + x)).map (Value.float .f32) = (List.range s).map fun j => Value.float .f32 (qW (A (xx + j) (yy + q))) := by
                  rw [List.map_map]
                  apply List.map_congr_left
                  intro j hj
                  have hj2 : j < s := by simpa using hj
                  show Value.float .f32 (qW (A (xx + (q * s + j) % s) (yy + (q * s + j) / s))) = _
                  rw [Nat.mul_comm q s, Nat.mul_add_mod, Nat.mod_eq_of_lt hj2, Nat.mul_add_div (by omega), Nat.div_eq_of_lt hj2, Nat.add_zero]
                rw [he]
                simpa using hown5
              clear hown hownd hown5 hgrow ai HC q0 f0 l0 q9 f9 l9 hB
              go_wp2_with fail
              go_roundw
              case rel => exact ⟨q + 1, by omega, by go_num, by rw [Nat.succ_mul], by rw [Nat.succ_mul]; exact ai5⟩
              case measure => simp [intOf]; omega
          · have hqs : q = s := by omega
            subst hqs
            obtain ⟨q5, f5, l5⟩ := ai.2.2.2.1.all
            obtain ⟨e1, e2, e3, e4, e5, e6, e7⟩ := Hh.out
            have hSq : q * q = S := e5.symm
            rw [hSq] at ai
            have hL : (List.range S).map (fun n => qW (A (xx + n % q) (yy + n / q))) = (win q A xx yy).map qW := by
              unfold win
              rw [hSq, List.map_map]
              rfl
            rw [hL] at ai
            have hwz : ∀ z ∈ win q A xx yy, z ≤ 1024 := by
              intro z hz
              obtain ⟨i, j, _, _, rfl⟩ := (win_mem q A xx yy z hsp).1 hz
              exact e7 _ _
            have hwl : (win q A xx yy).length = S := by unfold win; simp [hSq]
            have hop := hG.bound _ (win_ne q A xx yy hsp) hwz
            have hrdl : Rd wr gl 0 ((win q A xx yy).map qW) := rd_of_ow (n := S) (c := S) (B := gl) (by unfold Ow; simpa [hwl] using ai.2.2.2.2.2.1) (by rw [List.length_map, hwl])
            have hFk : qW (op (win q A xx yy)) = F k := by rw [HF.out, HX.out.1, HX.out.2.1]
            have hcn := qW_canon _ hop
            have hS1 : 0 < S := by rw [← hSq]; exact Nat.mul_pos hsp hsp
            rw [hSq]
            have Hz2 := Lib.hid (And.intro hwz (And.intro hwl (And.intro hFk hcn)))
            have hrow := ai.2.2.2.2.1
            have hrc := hrow.cell k hlt
            have hrf := hrow.frozen k
            have lg := hrow.lt
            clear e1 e2 e3 e4 e5 e6 e7 hSq hL hwz hwl hop hFk hcn hrow
            generalize win q A xx yy = zs at *
            have hcf := hG.enter
            have hgv := hG.gives zs gl S S
            have Hgv := Lib.hid hgv
            clear hgv
            have hClean : ∀ u : World, Calls Try.prog 88 #[.float .f32 (qW (op zs))] u fun e w' => e = .returned (.float .f32 (qW (op zs))) ∧ u = w' := fun u => by
              have := num_Clean (qW (op zs)) u
              rwa [Hz2.out.2.2.2] at this
            have HCl := Lib.hid hClean
            clear hClean
            have hki2 : decide ((q : Int) < (q : Int)) = false := by simp
            have hki3 : (k : Int) < (N : Int) := by omega
            have hB := ai.2.2.2.2.2.2
            have hsz := hB.size
            go_wp2_with fail
            refine wp_region_tail (fun z : BW wr.heap.size wr => z.w) 8 (by kernel_rfl) (by kernel_rfl) (BW.start _ _) rfl ?_
            simp only [List.take_succ_cons, List.take_zero, List.drop_succ_cons, List.drop_zero]
            repeat (go_big_quiet_step (first
              | (go_at_call 88; exact BW.call_same _ (HCl.out _))
              | (exact BW.call_same _ (Hgv.out _ Hz2.out.2.1 hS1 (by omega) Hz2.out.1 (hrdl.keep (BW.below _))))))
            refine wpQuiet_nil ?_
            intro z
            have ai6 := AI.store hap (ai.keep z.below) hlt _ Hz2.out.2.2.1
            clear ai
            go_wp2_with fail
            go_roundw
            case rel => exact ⟨k + 1, _, _, by omega, by go_num, rfl, ai6⟩
            case measure => simp [intOf]; omega
      · have hkN : k = N := by omega
        subst hkN
        obtain ⟨z0, z2, z9, z5, hrow, hown, hbl⟩ := ai
        obtain ⟨q5, f5, l5⟩ := z5.all
        obtain ⟨q2, f2, l2⟩ := z2.all
        rw [fillTo_full] at hrow
        have hap2 := hap
        obtain ⟨g1, g2, g3, g4, g5⟩ := hap2
        go_wp2_with fail
        refine bodyPost_ret (v := .tuple #[.agg #[.int .i64 (x + r), .int .i64 (y + r), .int .i64 pw, .int .i64 ph, .slice (some ⟨go, 0, none⟩) k k], .int .i64 0]) (by simp [results, Try.results110, go_sem, q2]) rfl ⟨go, rfl, by omega, ?_, ?_⟩
        · repeat (refine Row.other' (by omega) ?_)
          have he : (gridL pw ph fun x y => op (win s A x y)).map qW = (List.range k).map F := by
            unfold gridL
            rw [HF.out, List.map_map, Hh.out.2.2.2.2.2.1]
            rfl
          rw [he]
          exact hrow
        · repeat (refine bput (by omega) ?_)
          exact hbl
end Go.Proofs.Ytoffnmpnhddaiaa
