/- TopScopesOfTiles, walked. -/
import Derived.Test.YtoffnmpnhddaiaaHsE
import Derived.Test.YtoffnmpnhddaiaaHsP
import Derived.Test.YtoffnmpnhddaiaaFitS
import Derived.Test.YtoffnmpnhddaiaaFrBx
import Derived.BigRegion
namespace Go.Proofs.Ytoffnmpnhddaiaa
open Go.RowKit

/-- Ints, one a cell. -/
def arrA (f : Nat → Nat) (n : Nat) : Array Value := ((List.range n).map fun (q : Nat) => Value.int .i64 ((f q : Nat) : Int)).toArray
theorem arrA_at (f : Nat → Nat) (n q : Nat) (h : q < n) : (arrA f n)[q]? = some (.int .i64 ((f q : Nat) : Int)) := by
  unfold arrA
  simp [h]
theorem arrA_congr {f g : Nat → Nat} {n : Nat} (h : ∀ q, q < n → f q = g q) : arrA f n = arrA g n := by
  unfold arrA
  congr 1
  apply List.map_congr_left
  intro q hq
  rw [h q (List.mem_range.1 hq)]
theorem arrA_set {f g : Nat → Nat} {n k : Nat} (h : ∀ q, q ≠ k → g q = f q) : (arrA f n).setIfInBounds k (.int .i64 ((g k : Nat) : Int)) = arrA g n := by
  apply Array.toList_inj.1
  rw [Array.toList_setIfInBounds]
  unfold arrA
  apply List.ext_getElem
  · simp
  · intro i h1 h2
    rw [List.getElem_set]
    simp only [List.getElem_map, List.getElem_range]
    by_cases hi : k = i
    · subst hi; rw [if_pos rfl]
    · rw [if_neg hi, h i (fun e => hi e.symm)]
theorem cntA_arr (F : Nat → Int) (n k : Nat) : cntA F n k = arrA (fun q => cOf F (q : Int) k) n := rfl
theorem arrA_zero (n : Nat) : madeCells #[.int .i64 0] n = arrA (fun _ => 0) n := by
  apply Array.toList_inj.1
  rw [toList_madeCells_one]
  unfold arrA
  apply List.ext_getElem
  · simp
  · intro i h1 h2; simp
theorem nsum_mono (f : Nat → Nat) {a b : Nat} (h : a ≤ b) : nsum f a ≤ nsum f b := by
  obtain ⟨d, rfl⟩ : ∃ d, b = a + d := ⟨b - a, by omega⟩
  rw [nsum_add]; omega
/-- Tiles in a block. -/
def TlR (w : World) (gt N : Nat) (T : Nat → Int × Int × Int × Int) : Prop := gt < w.heap.size ∧ ∀ k, k < N → w.cell? ⟨gt, k * 4, none⟩ = some (.int .i64 (T k).1) ∧ w.cell? ⟨gt, k * 4 + 1, none⟩ = some (.int .i64 (T k).2.1) ∧ w.cell? ⟨gt, k * 4 + 2, none⟩ = some (.int .i64 (T k).2.2.1) ∧ w.cell? ⟨gt, k * 4 + 3, none⟩ = some (.int .i64 (T k).2.2.2)
theorem TlR.keep {w w' : World} {gt N : Nat} {T : Nat → Int × Int × Int × Int} (h : TlR w gt N T) (hb : Below w.heap.size w w') : TlR w' gt N T :=
  ⟨Nat.lt_of_lt_of_le h.1 hb.size, fun k hk => by
    obtain ⟨p1, p2, p3, p4⟩ := h.2 k hk
    exact ⟨(hb.cell (p := ⟨gt, _, none⟩) h.1).trans p1, (hb.cell (p := ⟨gt, _, none⟩) h.1).trans p2, (hb.cell (p := ⟨gt, _, none⟩) h.1).trans p3, (hb.cell (p := ⟨gt, _, none⟩) h.1).trans p4⟩⟩
theorem TlR.lt {w : World} {gt N : Nat} {T : Nat → Int × Int × Int × Int} (h : TlR w gt N T) : gt < w.heap.size := h.1
theorem TlR.other {w : World} {gt N a o : Nat} {u : Value} {T : Nat → Int × Int × Int × Int} (ha : gt ≠ a) (h : TlR w gt N T) : TlR (w.setCell ⟨a, o, none⟩ u) gt N T := by
  have hc : ∀ o', (w.setCell ⟨a, o, none⟩ u).cell? ⟨gt, o', none⟩ = w.cell? ⟨gt, o', none⟩ := fun o' => World.cell?_of_block (a := ⟨gt, o', none⟩) (Below.heap_setCell w ⟨a, o, none⟩ u gt ha)
  refine ⟨by simpa [World.setCell] using h.1, fun k hk => ?_⟩
  rw [hc, hc, hc, hc]
  exact h.2 k hk
theorem tiles_open {W : World} {B : Nat} {v : Value} {x y w h n : Int} {N : Nat} (hN : 0 < N) (hown : W.ownsRow B 23 4 v N (tileC x y w h n N)) : ∃ gt cap, v = .slice (some ⟨gt, 0, none⟩) N cap ∧ B ≤ gt ∧ TlR W gt N (tileNo x y w h n) := by
  obtain ⟨g, cap, e1, e2, e3, e4⟩ := own_form hown hN
  rcases rgS_of hown with h0 | ⟨g', c', r1, r2, r3, r4⟩
  · omega
  · rw [e1] at r1
    obtain ⟨rfl, _⟩ : g = g' ∧ cap = c' := by simpa using r1
    exact ⟨g, cap, e1, e2, r3, r4⟩

/-- Histogram of a tile that was cut. -/
theorem hist_tile (x y : Int) (w h i1 j1 rw_ rh k c lo hi m : Nat) (n : Int) (F : Nat → Int) (xs : List Nat) (g : Nat) (W : World) (hF : binM lo hi m c xs = F) (hi1 : i1 = nsum (colN x w n) (k % cnt x w n)) (hj1 : j1 = nsum (colN y h n) (k / cnt x w n)) (hrw : rw_ = colN x w n (k % cnt x w n)) (hrh : rh = colN y h n (k / cnt x w n))
    (hw1 : 1 ≤ rw_) (hw2 : rw_ ≤ 8) (hh1 : 1 ≤ rh) (hh2 : rh ≤ 8) (rx ry : Int) (hx1 : -1000 ≤ rx) (hx2 : rx ≤ 2000) (hy1 : -1000 ≤ ry) (hy2 : ry ≤ 2000) (hc5 : c < 5) (hbe : binsErr lo hi (m : Int) = 0) (hrd : Rd W g 0 (madeL (cutP xs rw_ w i1 j1) (4 * (rw_ * rh)))) :
    Calls Try.prog 80 #[.agg #[.int .i64 rx, .int .i64 ry, .int .i64 (rw_ : Int), .int .i64 (rh : Int), .slice (some ⟨g, 0, none⟩) (4 * (rw_ * rh)) (4 * (rw_ * rh))], .int .i64 (c : Int), .agg #[.float .f32 lo, .float .f32 hi, .int .i64 (m : Int)]] W fun e w' =>
      ∃ g', e = .returned (.tuple #[.agg #[.slice (some ⟨g', 0, none⟩) m m, .int .i64 ((tileCnt F x y w h n (-1) k : Nat) : Int), .int .i64 ((tileCnt F x y w h n (m : Int) k : Nat) : Int), .int .i64 ((tileCnt F x y w h n (-2) k : Nat) : Int)], .int .i64 0]) ∧
        W.heap.size ≤ g' ∧ Bx w' g' 3 (arrA (fun q => tileCnt F x y w h n (q : Int) k) m) ∧ Below W.heap.size W w' := by
  have hM : rw_ * rh ≤ 64 := Nat.mul_le_mul (show rw_ ≤ 8 by omega) (show rh ≤ 8 by omega)
  have hMi : ((rw_ * rh : Nat) : Int) = (rw_ : Int) * (rh : Int) := by push_cast; rfl
  have hreg : checkRegion rx ry rw_ rh = 0 := checkRegion_of (by omega) (by omega) (by omega) (by omega) (by rw [← hMi]; omega) (by omega) (by omega) (by omega) (by omega)
  have hck : checkFrame rx ry rw_ rh (4 * (rw_ * rh)) = 0 := checkFrame_of hreg (by rw [Int.mul_assoc, ← hMi]; push_cast; rfl)
  have h1 := scope_Histogram_ok rx ry rw_ rh g 0 (4 * (rw_ * rh)) (4 * (rw_ * rh)) (rw_ * rh) c lo hi m _ W hck hMi (by omega) rfl hc5 (madeL_len _ _) hrd (by omega) (by omega) (by omega) (by omega) (Nat.le_refl _) hbe
  have h2 : ∀ q : Int, cOf (binM lo hi m c (madeL (cutP xs rw_ w i1 j1) (4 * (rw_ * rh)))) q (rw_ * rh) = tileCnt F x y w h n q k := by
    intro q
    subst hi1 hj1 hrw hrh hF
    exact tile_hist lo hi m c xs x y w h n q k hc5
  rw [cntA_arr] at h1
  simp only [h2] at h1
  exact h1

set_option maxRecDepth 100000 in
set_option maxHeartbeats 16000000 in
theorem law_TopScopes (x y w h : Int) (v : Value) (xs : List Nat) (side ch : Int) (lo hi : Nat) (many : Int) (W : World) (hs : Sl W v xs) :
    Calls Try.prog 14 #[.agg #[.int .i64 x, .int .i64 y, .int .i64 w, .int .i64 h, v], .int .i64 side, .int .i64 ch, .agg #[.float .f32 lo, .float .f32 hi, .int .i64 many]] W fun e w' =>
      e = .returned (.bool true) ∧ Below W.heap.size W w' := by
  have hv1 : v.cells = #[v] := by rcases hs with ⟨b, o, c, rfl, _⟩ | ⟨_, a, c, rfl⟩ <;> rfl
  go_enter Try.func14, Try.ntmps14
  go_upto_region 3 with (go_at_call 78; refine (top_landed _).mono ?_; rintro e w' ⟨rfl, rfl⟩)
  refine name_world ?_
  intro v0 hwa
  have x4 : Bx v0 W.heap.size 26 #[.int .i64 x, .int .i64 y, .int .i64 w, .int .i64 h, v] := by rw [hwa]; exact Bx.alloc (Bx.new _ _ _) _
  have x7 : Bx v0 (W.heap.size + 1) 107 #[.float .f32 lo, .float .f32 hi, .int .i64 many] := by rw [hwa]; exact Bx.at _ (by simp)
  have B : Below W.heap.size W v0 := by rw [hwa]; exact bnew (bnew (Below.refl _ W))
  clear hwa
  obtain ⟨qx4, fx4, lx4⟩ := x4.all
  obtain ⟨qx7, fx7, lx7⟩ := x7.all
  go_wp2_with fail
  have l6' := x7.lt
  refine (top_small _ _ _ _ _ xs _ (hs.keep B)).mono ?_
  rintro e v1 ⟨g, N, hN, rfl, hg, row, hb⟩
  clear qx4 fx4 lx4 qx7 fx7 lx7
  replace x4 := x4.keep hb
  replace x7 := x7.keep hb
  replace B := bcall B hb
  clear hb
  have hx6 : W.heap.size + 1 < g := by omega
  clear l6' hg
  obtain ⟨M, rfl, H1⟩ := fit_right (x := x) (y := y) (xs := xs) hN
  clear hN hs
  generalize fitPlace x = fx at *
  generalize fitPlace y = fy at *
  generalize fitSide w = fw0 at *
  generalize fitSide h = fh0 at *
  generalize fitV xs (4 * M) = zs at *
  obtain ⟨fw, rfl⟩ : ∃ k : Nat, fw0 = k := ⟨fw0.toNat, by have := H1.out; omega⟩
  obtain ⟨fh, rfl⟩ : ∃ k : Nat, fh0 = k := ⟨fh0.toNat, by have := H1.out; omega⟩
  have hMi := H1.out.2.1
  have hM : M = fw * fh := by exact_mod_cast hMi
  have hbd := H1.out.2.2
  have hM2 : M ≤ 64 := by rw [hM]; exact Nat.mul_le_mul (show fw ≤ 8 by omega) (show fh ≤ 8 by omega)
  have hreg : checkRegion fx fy fw fh = 0 := fitted_ok hbd.1.1 hbd.1.2 hbd.2.1.1 hbd.2.1.2 hbd.2.2.1.1 hbd.2.2.1.2 hbd.2.2.2.1 hbd.2.2.2.2
  have hck : checkFrame fx fy fw fh (4 * M) = 0 := checkFrame_of hreg (by subst hM; push_cast; rw [Int.mul_assoc])
  have hd := Lib.hid (And.intro H1.out.1 (And.intro hM (And.intro hck (And.intro hreg hMi))))
  obtain ⟨⟨w1, w2⟩, ⟨h1, h2⟩, ⟨x1, x2⟩, y1, y2⟩ := hbd
  clear H1 hM hck hreg hMi
  have rd := row.rd
  clear row
  obtain ⟨qx4, fx4, lx4⟩ := x4.all
  obtain ⟨qx7, fx7, lx7⟩ := x7.all
  go_wp2_with fail
  obtain ⟨z, on⟩ := set5 x4 (.int .i64 fx) (.int .i64 fy) (.int .i64 (fw : Int)) (.int .i64 (fh : Int)) (.slice (some ⟨g, 0, none⟩) (4 * M) (4 * M))
  refine nm_call ?_
  intro v2 hwn
  rw [← hwn] at z on
  clear hwn
  clear qx4 fx4 lx4 qx7 fx7 lx7
  replace x7 := on.bx (by omega) x7
  replace rd := on.rd (by omega) rd
  replace B := bonly B on (by omega)
  clear x4
  have x4 := z
  clear z on
  by_cases hch : ch < 0 ∨ 4 < ch
  · refine (scope_Histogram_ch fx fy fw fh ch many g 0 (4 * M) _ lo hi _ hd.out.2.2.1 (by unfold maxLen; omega) hch).mono ?_
    rintro e v3 ⟨e0, he0, rfl, hb⟩
    replace x4 := x4.keep hb
    replace x7 := x7.keep hb
    replace rd := rd.keep hb
    replace B := bcall B hb
    clear hb
    have hb : (e0 != 0) = true := by simpa using he0
    obtain ⟨qx4, fx4, lx4⟩ := x4.all
    obtain ⟨qx7, fx7, lx7⟩ := x7.all
    go_wp2_with fail
    go_ret
    exact ⟨rfl, by repeat (first | exact B | refine bnew ?_)⟩
  obtain ⟨c, rfl⟩ : ∃ c : Nat, ch = c := ⟨ch.toNat, by omega⟩
  have hc5 : c < 5 := by omega
  clear hch
  by_cases hbe : binsErr lo hi many ≠ 0
  · refine (scope_Histogram_bins fx fy fw fh many g 0 (4 * M) _ M c lo hi zs _ hd.out.2.2.1 hd.out.2.2.2.2 (by omega) rfl hc5 hd.out.1 rd (by omega) (by omega) (by omega) (by omega) (by omega) hbe).mono ?_
    rintro e v3 ⟨e0, he0, rfl, hb⟩
    replace x4 := x4.keep hb
    replace x7 := x7.keep hb
    replace rd := rd.keep hb
    replace B := bcall B hb
    clear hb
    have hb : (e0 != 0) = true := by simpa using he0
    obtain ⟨qx4, fx4, lx4⟩ := x4.all
    obtain ⟨qx7, fx7, lx7⟩ := x7.all
    go_wp2_with fail
    go_ret
    exact ⟨rfl, by repeat (first | exact B | refine bnew ?_)⟩
  replace hbe : binsErr lo hi many = 0 := by simpa using hbe
  obtain ⟨_, _, _, k4, k5⟩ := binsErr_ok hbe
  obtain ⟨m, rfl⟩ : ∃ m : Nat, many = m := ⟨many.toNat, by omega⟩
  have hm1 : 1 ≤ m ∧ m ≤ 1024 := by omega
  have Hbe := Lib.hid hbe
  clear hbe k4 k5
  have l6' := x7.lt
  refine (scope_Histogram_ok fx fy fw fh g 0 (4 * M) _ M c lo hi m zs _ hd.out.2.2.1 hd.out.2.2.2.2 (by omega) rfl hc5 hd.out.1 rd (by omega) (by omega) (by omega) (by omega) (by omega) Hbe.out).mono ?_
  rintro e v3 ⟨g9, rfl, hg9, xg9, hb⟩
  replace x4 := x4.keep hb
  replace x7 := x7.keep hb
  replace rd := rd.keep hb
  replace B := bcall B hb
  clear hb
  have hq0 : W.heap.size + 1 < g9 := by omega
  clear l6' hg9
  generalize hF : binM lo hi m c zs = F at *
  have HF := Lib.hid hF
  clear hF
  have hle := fun q => cOf_le F q M
  have nQ1 := hle (-1)
  have nQ2 := hle (m : Int)
  have nQ3 := hle (-2)
  clear hle
  obtain ⟨qx4, fx4, lx4⟩ := x4.all
  obtain ⟨qx7, fx7, lx7⟩ := x7.all
  obtain ⟨qxg9, fxg9, lxg9⟩ := xg9.all
  go_wp2_with fail
  have hs1 : W.heap.size + 1 < v3.heap.size ∧ g < v3.heap.size ∧ g9 < v3.heap.size := ⟨x7.lt, rd.lt, xg9.lt⟩
  refine nm_call ?_
  intro v4 hwn
  have x9 : Bx v4 v3.heap.size 109 #[.slice (some ⟨g9, 0, none⟩) m m, .int .i64 ((cOf F (-1) M : Nat) : Int), .int .i64 ((cOf F (m : Int) M : Nat) : Int), .int .i64 ((cOf F (-2) M : Nat) : Int)] := by rw [hwn]; exact Bx.new _ _ _
  have hb : Below v3.heap.size v3 v4 := by rw [hwn]; exact bnew (Below.refl _ _)
  clear qx4 fx4 lx4 qx7 fx7 lx7 qxg9 fxg9 lxg9
  replace x4 := x4.keep hb
  replace x7 := x7.keep hb
  replace xg9 := xg9.keep hb
  replace rd := rd.keep hb
  replace B := bcall B hb
  clear hwn hb
  generalize hp9 : v3.heap.size = p9 at *
  clear hp9
  have l9' := x9.lt
  by_cases hte : tErr fx fy fw fh side ≠ 0
  · refine (frame_TilesT fx fy fw fh side _).mono ?_
    rintro e v5 ⟨vt, rfl, hown, hb⟩
    replace x4 := x4.keep hb
    replace x7 := x7.keep hb
    replace xg9 := xg9.keep hb
    replace x9 := x9.keep hb
    replace rd := rd.keep hb
    replace B := bcall B hb
    clear hb
    generalize tErr fx fy fw fh side = e0 at *
    have hb : (e0 != 0) = true := by simpa using hte
    obtain ⟨qx4, fx4, lx4⟩ := x4.all
    obtain ⟨qx7, fx7, lx7⟩ := x7.all
    obtain ⟨qxg9, fxg9, lxg9⟩ := xg9.all
    obtain ⟨qx9, fx9, lx9⟩ := x9.all
    go_wp2_with fail
    go_ret
    exact ⟨rfl, by repeat (first | exact B | refine bnew ?_)⟩
  replace hte : tErr fx fy fw fh side = 0 := by simpa using hte
  obtain ⟨_, sd1, sd2⟩ := tErr_zero hte
  have hmN : tMany fx fy fw fh side = cnt fy fh side * cnt fx fw side := by unfold tMany; rw [if_pos hte]
  have hNp : 0 < cnt fy fh side * cnt fx fw side := Nat.mul_pos (cnt_pos _ _ _ (by omega) (by omega)) (cnt_pos _ _ _ (by omega) (by omega))
  have hNl := tMany_le fx fy fw fh side
  rw [hmN] at hNl
  refine (frame_TilesT fx fy fw fh side _).mono ?_
  rintro e v5 ⟨vt, rfl, hown, hb⟩
  replace x4 := x4.keep hb
  replace x7 := x7.keep hb
  replace xg9 := xg9.keep hb
  replace x9 := x9.keep hb
  replace rd := rd.keep hb
  replace B := bcall B hb
  clear hb
  rw [hmN] at hown
  obtain ⟨gt, cap, rfl, hgt, tl⟩ := tiles_open hNp hown
  have hgt9 : p9 < gt := by omega
  rw [hte]
  have HT := Lib.hid (fun k (hk : k < cnt fy fh side * cnt fx fw side) => tile_at fx fy fw fh side (by omega) (by omega) (by omega) k hk)
  have HS := Lib.hid (fun q => tiles_sum F fx fy fw fh side q (by omega) (by omega) (by omega))
  clear hown hgt l9' hte hmN
  generalize hN : cnt fy fh side * cnt fx fw side = N at *
  have HN := Lib.hid hN
  clear hN
  have hmk := fun w => run_makeInts w m (by omega)
  obtain ⟨qx4, fx4, lx4⟩ := x4.all
  obtain ⟨qx7, fx7, lx7⟩ := x7.all
  obtain ⟨qxg9, fxg9, lxg9⟩ := xg9.all
  obtain ⟨qx9, fx9, lx9⟩ := x9.all
  go_upto_region 11 with fail
  have ltl := tl.lt
  refine name_world ?_
  intro u1 hu1
  have xg12 : Bx u1 v5.heap.size 3 (arrA (fun _ => 0) m) := by rw [hu1, ← arrA_zero]; exact Bx.alloc (Bx.new _ _ _) _
  have x12 : Bx u1 (v5.heap.size + 1) 109 #[.slice (some ⟨v5.heap.size, 0, none⟩) m m, .int .i64 0, .int .i64 0, .int .i64 0] := by rw [hu1]; exact Bx.at _ (by simp)
  have hb : Below v5.heap.size v5 u1 := by rw [hu1]; exact bbnew (bbnew (Below.refl _ _) (Nat.le_refl _)) (by simp)
  clear qx4 fx4 lx4 qx7 fx7 lx7 qxg9 fxg9 lxg9 qx9 fx9 lx9
  replace x4 := x4.keep hb
  replace x7 := x7.keep hb
  replace xg9 := xg9.keep hb
  replace x9 := x9.keep hb
  replace rd := rd.keep hb
  replace tl := tl.keep hb
  replace B := bcall B hb
  clear hu1 hb
  generalize hp12 : v5.heap.size + 1 = p12 at *
  generalize hg12 : v5.heap.size = g12 at *
  have hg1 : gt < g12 ∧ g12 < p12 := by omega
  clear hp12 hg12 ltl hmk
  obtain ⟨T, hT⟩ : ∃ T : Int → Nat → Nat, T = fun q => tileCnt F fx fy fw fh side q := ⟨_, rfl⟩
  have hsum : ∀ q, nsum (T q) N = cOf F q M := by
    intro q
    have h1 := HS.out q
    rw [← hd.out.2.1] at h1
    rw [hT]
    exact h1
  have hbnd : ∀ q k, k ≤ N → nsum (T q) k ≤ 64 := by
    intro q k hk
    have b1 := nsum_mono (T q) hk
    have b2 := cOf_le F q M
    rw [hsum q] at b1
    omega
  have Hsum := Lib.hid (And.intro hsum (And.intro hbnd hT))
  clear hsum hbnd hT HS
  go_wp2_with fail
  
  go_loopw [50] (fun i wr => ∃ k : Nat, k ≤ N ∧ i = .int .i64 k ∧ Bx wr W.heap.size 26 #[.int .i64 fx, .int .i64 fy, .int .i64 (fw : Int), .int .i64 (fh : Int), .slice (some ⟨g, 0, none⟩) (4 * M) (4 * M)] ∧ Bx wr (W.heap.size + 1) 107 #[.float .f32 lo, .float .f32 hi, .int .i64 (m : Int)] ∧ Bx wr g9 3 (cntA F m M) ∧ Bx wr p9 109 #[.slice (some ⟨g9, 0, none⟩) m m, .int .i64 ((cOf F (-1) M : Nat) : Int), .int .i64 ((cOf F (m : Int) M : Nat) : Int), .int .i64 ((cOf F (-2) M : Nat) : Int)] ∧
      Bx wr g12 3 (arrA (fun q => nsum (T (q : Int)) k) m) ∧ Bx wr p12 109 #[.slice (some ⟨g12, 0, none⟩) m m, .int .i64 ((nsum (T (-1)) k : Nat) : Int), .int .i64 ((nsum (T (m : Int)) k : Nat) : Int), .int .i64 ((nsum (T (-2)) k : Nat) : Int)] ∧ Rd wr g 0 zs ∧ TlR wr gt N (tileNo fx fy fw fh side) ∧ Below W.heap.size W wr) (fun i _ => N - (intOf i).toNat)
  case atStart => exact ⟨0, by omega, rfl, x4, x7, xg9, x9, xg12, x12, rd, tl, B⟩
  case round =>
    clear x4 x7 xg9 x9 xg12 x12 rd tl B
    obtain ⟨k, hk, rfl, x4, x7, xg9, x9, xg12, x12, rd, tl, B⟩ := hrel
    by_cases hlt : k < N
    · have hki : (k : Int) < (N : Int) := by omega
      obtain ⟨c0, c1, c2, c3⟩ := tl.2 k hlt
      obtain ⟨ht, t1, t2, t3, t4⟩ := HT.out k hlt
      obtain ⟨i1, hi1⟩ : ∃ a, a = nsum (colN fx fw side) (k % cnt fx fw side) := ⟨_, rfl⟩
      obtain ⟨j1, hj1⟩ : ∃ a, a = nsum (colN fy fh side) (k / cnt fx fw side) := ⟨_, rfl⟩
      obtain ⟨tw, htw⟩ : ∃ a, a = colN fx fw side (k % cnt fx fw side) := ⟨_, rfl⟩
      obtain ⟨th, hth⟩ : ∃ a, a = colN fy fh side (k / cnt fx fw side) := ⟨_, rfl⟩
      rw [← hi1, ← hj1, ← htw, ← hth] at ht
      rw [← htw, ← hi1] at t3
      rw [← hth, ← hj1] at t4
      rw [← htw] at t1
      rw [← hth] at t2
      rw [ht] at c0 c1 c2 c3
      have HX := Lib.hid (And.intro hi1 (And.intro hj1 (And.intro htw hth)))
      clear hi1 hj1 htw hth ht
      obtain ⟨q4, f4, l4⟩ := x4.all
      have ltl := tl.lt
      obtain ⟨rx, hrx⟩ : ∃ r, r = fx + (i1 : Int) := ⟨_, rfl⟩
      obtain ⟨ry, hry⟩ : ∃ r, r = fy + (j1 : Int) := ⟨_, rfl⟩
      dsimp only at c0 c1 c2 c3
      rw [← hrx] at c0
      rw [← hry] at c1
      have hrb : -1000 ≤ rx ∧ rx ≤ 2000 ∧ -1000 ≤ ry ∧ ry ≤ 2000 := by omega
      have Hrxy := Lib.hid (And.intro hrx hry)
      clear hrx hry
      have hM64 : tw * th ≤ 64 := Nat.mul_le_mul (show tw ≤ 8 by omega) (show th ≤ 8 by omega)
      have hMi : ((tw * th : Nat) : Int) = (tw : Int) * (th : Int) := by push_cast; rfl
      have hcr : checkRegion rx ry tw th = 0 := checkRegion_of (by omega) (by omega) (by omega) (by omega) (by rw [← hMi]; omega) (by omega) (by omega) (by omega) (by omega)
      clear hMi
      have Hcr := Lib.hid hcr
      clear hcr
      go_wp2_with fail
      refine nm_call ?_
      intro va hva
      have hb : Below wr.heap.size wr va := by rw [hva]; exact bnew (Below.refl _ _)
      have lsz := x12.lt
      clear hva q4 f4 l4 ltl c0 c1 c2 c3
      replace x4 := x4.keep hb
      replace x7 := x7.keep hb
      replace xg9 := xg9.keep hb
      replace x9 := x9.keep hb
      replace xg12 := xg12.keep hb
      replace x12 := x12.keep hb
      replace rd := rd.keep hb
      replace tl := tl.keep hb
      replace B := bcall B hb
      have lva := hb.size
      clear hb
      refine (frame_Cut_ok fx fy rx ry fw fh tw th i1 j1 g 0 (4 * M) _ zs _ hd.out.2.2.1 hd.out.2.2.2.1 Hcr.out (by rw [hd.out.2.1]) hd.out.1 rd Hrxy.out.1 Hrxy.out.2 (by omega) (by omega)).mono ?_
      rintro e vb ⟨g5, rfl, hg5, row5, hb⟩
      have rd5 := row5.rd
      clear row5
      replace x4 := x4.keep hb
      replace x7 := x7.keep hb
      replace xg9 := xg9.keep hb
      replace x9 := x9.keep hb
      replace xg12 := xg12.keep hb
      replace x12 := x12.keep hb
      replace rd := rd.keep hb
      replace tl := tl.keep hb
      replace B := bcall B hb
      clear hb
      obtain ⟨q7, f7, l7⟩ := x7.all
      go_wp2_with fail
      refine nm_call ?_
      intro vc hvc
      have hb : Below vb.heap.size vb vc := by rw [hvc]; exact bnew (Below.refl _ _)
      clear hvc q7 f7 l7
      replace x4 := x4.keep hb
      replace x7 := x7.keep hb
      replace xg9 := xg9.keep hb
      replace x9 := x9.keep hb
      replace xg12 := xg12.keep hb
      replace x12 := x12.keep hb
      replace rd := rd.keep hb
      replace tl := tl.keep hb
      replace rd5 := rd5.keep hb
      replace B := bcall B hb
      clear hb
      have hh := hist_tile fx fy fw fh i1 j1 tw th k c lo hi m side F zs g5 vc HF.out HX.out.1 HX.out.2.1 HX.out.2.2.1 HX.out.2.2.2 t1 (by omega) t2 (by omega) rx ry hrb.1 hrb.2.1 hrb.2.2.1 hrb.2.2.2 hc5 Hbe.out rd5
      have he : ∀ q, tileCnt F fx fy fw fh side q k = T q k := fun q => by rw [Hsum.out.2.2]
      simp only [he] at hh
      clear he
      refine hh.mono ?_
      clear hh
      rintro e vd ⟨g17, rfl, hg17, xg17, hb⟩
      have lvc := x12.lt
      have hgx : p12 < g17 := by omega
      clear rd5 lsz lva hg5 hg17 lvc
      replace x4 := x4.keep hb
      replace x7 := x7.keep hb
      replace xg9 := xg9.keep hb
      replace x9 := x9.keep hb
      replace xg12 := xg12.keep hb
      replace x12 := x12.keep hb
      replace rd := rd.keep hb
      replace tl := tl.keep hb
      replace B := bcall B hb
      clear hb
      have lg17 := xg17.lt
      go_upto_region 18 with fail
      refine name_world ?_
      intro ve hve
      have x17 : Bx ve vd.heap.size 109 #[.slice (some ⟨g17, 0, none⟩) m m, .int .i64 ((T (-1) k : Nat) : Int), .int .i64 ((T (m : Int) k : Nat) : Int), .int .i64 ((T (-2) k : Nat) : Int)] := by rw [hve]; exact Bx.new _ _ _
      have hb : Below vd.heap.size vd ve := by rw [hve]; exact bnew (Below.refl _ _)
      clear hve
      replace x4 := x4.keep hb
      replace x7 := x7.keep hb
      replace xg9 := xg9.keep hb
      replace x9 := x9.keep hb
      replace xg12 := xg12.keep hb
      replace x12 := x12.keep hb
      replace rd := rd.keep hb
      replace tl := tl.keep hb
      replace xg17 := xg17.keep hb
      replace B := bcall B hb
      clear hb
      generalize vd.heap.size = p17 at *
      have bn : ∀ q : Int, nsum (T q) k + T q k ≤ 64 := fun q => Hsum.out.2.1 q (k + 1) (by omega)
      have Bn := Lib.hid bn
      have b1 := bn (-1)
      have b2 := bn (m : Int)
      have b3 := bn (-2)
      clear bn
      clear t1 t2 t3 t4 hM64 Hcr HX Hrxy hrb w1 w2 h1 h2 x1 x2 y1 y2 nQ1 nQ2 nQ3 hNp sd1 sd2 hM2 HT Hbe HF hd hc5
      obtain ⟨q7, f7, l7⟩ := x7.all
      obtain ⟨q17, f17, l17⟩ := x17.all
      go_wp2_with fail
      go_loopw [82] (fun i wi => ∃ j : Nat, j ≤ m ∧ i = .int .i64 j ∧ Bx wi W.heap.size 26 #[.int .i64 fx, .int .i64 fy, .int .i64 (fw : Int), .int .i64 (fh : Int), .slice (some ⟨g, 0, none⟩) (4 * M) (4 * M)] ∧ Bx wi (W.heap.size + 1) 107 #[.float .f32 lo, .float .f32 hi, .int .i64 (m : Int)] ∧ Bx wi g9 3 (cntA F m M) ∧ Bx wi p9 109 #[.slice (some ⟨g9, 0, none⟩) m m, .int .i64 ((cOf F (-1) M : Nat) : Int), .int .i64 ((cOf F (m : Int) M : Nat) : Int), .int .i64 ((cOf F (-2) M : Nat) : Int)] ∧
          Bx wi g12 3 (arrA (fun q => nsum (T (q : Int)) k + if q < j then T (q : Int) k else 0) m) ∧ Bx wi p12 109 #[.slice (some ⟨g12, 0, none⟩) m m, .int .i64 ((nsum (T (-1)) k : Nat) : Int), .int .i64 ((nsum (T (m : Int)) k : Nat) : Int), .int .i64 ((nsum (T (-2)) k : Nat) : Int)] ∧ Rd wi g 0 zs ∧ TlR wi gt N (tileNo fx fy fw fh side) ∧
          Bx wi p17 109 #[.slice (some ⟨g17, 0, none⟩) m m, .int .i64 ((T (-1) k : Nat) : Int), .int .i64 ((T (m : Int) k : Nat) : Int), .int .i64 ((T (-2) k : Nat) : Int)] ∧ Bx wi g17 3 (arrA (fun q => T (q : Int) k) m) ∧ Below W.heap.size W wi) (fun i _ => m - (intOf i).toNat)
      case atStart => exact ⟨0, by omega, rfl, x4, x7, xg9, x9, xg12, x12, rd, tl, x17, xg17, B⟩
      case round =>
        clear x4 x7 xg9 x9 xg12 x12 rd tl x17 xg17 B q7 f7 l7 q17 f17 l17
        obtain ⟨j, hj, rfl, x4, x7, xg9, x9, xg12, x12, rd, tl, x17, xg17, B⟩ := hrel
        by_cases hjm : j < m
        · have hji : (j : Int) < (m : Int) := by omega
          have hc17 : wr.cell? ⟨g17, j, none⟩ = some (.int .i64 ((T (j : Int) k : Nat) : Int)) := by rw [xg17.all.1 j, arrA_at _ m j hjm]
          have hc12 : wr.cell? ⟨g12, j, none⟩ = some (.int .i64 ((nsum (T (j : Int)) k : Nat) : Int)) := by rw [xg12.all.1 j, arrA_at _ m j hjm]; simp
          have hf12 := xg12.all.2.1 j
          have bj := Bn.out (j : Int)
          have hset := xg12.set j (.int .i64 ((nsum (T (j : Int)) k + T (j : Int) k : Nat) : Int))
          have hse := arrA_set (f := fun q => nsum (T (q : Int)) k + if q < j then T (q : Int) k else 0) (g := fun q => nsum (T (q : Int)) k + if q < j + 1 then T (q : Int) k else 0) (n := m) (k := j) (by
            intro q hq
            by_cases h0 : q < j
            · simp only [if_pos h0, if_pos (show q < j + 1 by omega)]
            · simp only [if_neg h0, if_neg (show ¬ q < j + 1 by omega)])
          simp only [if_pos (Nat.lt_succ_self j)] at hse
          rw [hse] at hset
          have Hset := Lib.hid hset
          clear hset hse
          obtain ⟨q12, f12, l12⟩ := x12.all
          obtain ⟨q17, f17, l17⟩ := x17.all
          generalize T (j : Int) k = tj at *
          generalize nsum (T (j : Int)) k = sj at *
          go_wp2_with fail
          go_roundw
          case rel =>
            refine ⟨j + 1, by omega, by go_num, Bx.other' (by omega) x4, Bx.other' (by omega) x7, Bx.other' (by omega) xg9, Bx.other' (by omega) x9, by simpa using Hset.out, Bx.other' (by omega) x12, ?_, TlR.other (by omega) tl, Bx.other' (by omega) x17, Bx.other' (by omega) xg17, bput (by omega) B⟩
            exact ((Only.refl g12 _).set _ _).rd (by omega) rd
          case measure => simp [intOf]; omega
        · have hjm' : j = m := by omega
          subst hjm'
          have e12 : arrA (fun q => nsum (T (q : Int)) k + if q < j then T (q : Int) k else 0) j = arrA (fun q => nsum (T (q : Int)) (k + 1)) j := arrA_congr fun q hq => by rw [if_pos hq, nsum]
          rw [e12] at xg12
          clear e12
          have n1 : nsum (T (-1)) (k + 1) = nsum (T (-1)) k + T (-1) k := rfl
          have n2 : nsum (T (j : Int)) (k + 1) = nsum (T (j : Int)) k + T (j : Int) k := rfl
          have n3 : nsum (T (-2)) (k + 1) = nsum (T (-2)) k + T (-2) k := rfl
          have Hn := Lib.hid (And.intro n1 (And.intro n2 n3))
          clear n1 n2 n3
          obtain ⟨q12, f12, l12⟩ := x12.all
          obtain ⟨q17, f17, l17⟩ := x17.all
          generalize hS1 : nsum (T (-1)) k = S1 at *
          generalize hS2 : nsum (T (j : Int)) k = S2 at *
          generalize hS3 : nsum (T (-2)) k = S3 at *
          generalize T (-1) k = C1 at *
          generalize T (j : Int) k = C2 at *
          generalize T (-2) k = C3 at *
          clear hS1 hS2 hS3
          have v1 := x12.set 1 (.int .i64 ((S1 + C1 : Nat) : Int))
          have v2 := v1.set 2 (.int .i64 ((S2 + C2 : Nat) : Int))
          have v3 := v2.set 3 (.int .i64 ((S3 + C3 : Nat) : Int))
          have on := (((Only.refl p12 wr).set 1 (.int .i64 ((S1 + C1 : Nat) : Int))).set 2 (.int .i64 ((S2 + C2 : Nat) : Int))).set 3 (.int .i64 ((S3 + C3 : Nat) : Int))
          have Hne := Lib.hid (show W.heap.size ≠ p12 ∧ W.heap.size + 1 ≠ p12 ∧ g9 ≠ p12 ∧ p9 ≠ p12 ∧ g12 ≠ p12 ∧ g ≠ p12 ∧ gt ≠ p12 ∧ W.heap.size ≤ p12 from ⟨by omega, by omega, by omega, by omega, by omega, by omega, by omega, by omega⟩)
          as_aux_lemma =>
            go_wp2_with fail
            go_region
            all_goals go_wp2_with fail
            all_goals go_roundw
            case rel =>
              have E := Hne.out
              refine ⟨k + 1, hlt, by go_num, on.bx E.1 x4, on.bx E.2.1 x7, on.bx E.2.2.1 xg9, on.bx E.2.2.2.1 x9, on.bx E.2.2.2.2.1 xg12, ?_, on.rd E.2.2.2.2.2.1 rd, TlR.other E.2.2.2.2.2.2.1 (TlR.other E.2.2.2.2.2.2.1 (TlR.other E.2.2.2.2.2.2.1 tl)), (bonly B on E.2.2.2.2.2.2.2).drew⟩
              obtain ⟨n1, n2, n3⟩ := Hn.out
              rw [n1, n2, n3]
              have v4 : Bx ((((wr.setCell ⟨p12, 1, none⟩ _).setCell ⟨p12, 2, none⟩ _).setCell ⟨p12, 3, none⟩ _)).drew p12 _ _ := v3
              simpa using v4
            case measure => simp [intOf]; omega
    · have hkN : k = N := by omega
      subst hkN
      have e12 : arrA (fun q => nsum (T (q : Int)) k) m = cntA F m M := by rw [cntA_arr]; exact arrA_congr fun q _ => Hsum.out.1 q
      rw [e12] at xg12
      rw [Hsum.out.1, Hsum.out.1, Hsum.out.1] at x12
      obtain ⟨q9, f9, l9⟩ := x9.all
      obtain ⟨q12, f12, l12⟩ := x12.all
      go_wp2_with fail
      go_loopw [118] (fun i wi => ∃ j : Nat, j ≤ m ∧ i = .int .i64 j ∧ Bx wi g9 3 (cntA F m M) ∧ Bx wi p9 109 #[.slice (some ⟨g9, 0, none⟩) m m, .int .i64 ((cOf F (-1) M : Nat) : Int), .int .i64 ((cOf F (m : Int) M : Nat) : Int), .int .i64 ((cOf F (-2) M : Nat) : Int)] ∧
          Bx wi g12 3 (cntA F m M) ∧ Bx wi p12 109 #[.slice (some ⟨g12, 0, none⟩) m m, .int .i64 ((cOf F (-1) M : Nat) : Int), .int .i64 ((cOf F (m : Int) M : Nat) : Int), .int .i64 ((cOf F (-2) M : Nat) : Int)] ∧ Below W.heap.size W wi) (fun i _ => m - (intOf i).toNat)
      case atStart => exact ⟨0, by omega, rfl, xg9, x9, xg12, x12, B⟩
      case round =>
        clear x4 x7 xg9 x9 xg12 x12 rd tl B q9 f9 l9 q12 f12 l12
        obtain ⟨j, hj, rfl, xg9, x9, xg12, x12, B⟩ := hrel
        obtain ⟨q9, f9, l9⟩ := x9.all
        obtain ⟨q12, f12, l12⟩ := x12.all
        by_cases hjm : j < m
        · have hji : (j : Int) < (m : Int) := by omega
          have hc9 : wr.cell? ⟨g9, j, none⟩ = some (.int .i64 ((cOf F (j : Int) M : Nat) : Int)) := by rw [xg9.all.1 j, cntA_at F m M j hjm]
          have hc12 : wr.cell? ⟨g12, j, none⟩ = some (.int .i64 ((cOf F (j : Int) M : Nat) : Int)) := by rw [xg12.all.1 j, cntA_at F m M j hjm]
          generalize cOf F (j : Int) M = cj at *
          go_wp2_with fail
          go_roundw
          case rel => exact ⟨j + 1, by omega, by go_num, xg9, x9, xg12, x12, B⟩
          case measure => simp [intOf]; omega
        · have hjm' : j = m := by omega
          subst hjm'
          go_wp2_with fail
          go_ret
          exact ⟨rfl, B⟩
end Go.Proofs.Ytoffnmpnhddaiaa
