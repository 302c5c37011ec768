/- Spread and Shrink of a matte of shares; fitMatte; a slice of ints that came in. -/
import Derived.Test.YtoffnmpnhddaiaaMtG
import Derived.Test.YtoffnmpnhddaiaaMtE
import Derived.Test.YtoffnmpnhddaiaaMatO
import Derived.Test.YtoffnmpnhddaiaaCln
namespace Go.Proofs.Ytoffnmpnhddaiaa
open Go.RowKit

theorem Bx.dr {w w' : World} {b : Nat} {T : TypeId} {cs : Array Value} {m : Nat} (h : Bx w b T cs) (e : w' = w.drewN m) : Bx w' b T cs := by subst e; exact h
theorem Row.dr {w w' : World} {g n : Nat} {xs : List Nat} {m : Nat} (h : Row w g n xs) (e : w' = w.drewN m) : Row w' g n xs := by subst e; exact h
theorem bdr {W w w' : World} {m : Nat} (h : Below W.heap.size W w) (e : w' = w.drewN m) : Below W.heap.size W w' := by subst e; exact below_drewN h _
theorem Bx.al {w w' : World} {b : Nat} {T : TypeId} {cs : Array Value} {ob : Obj} (h : Bx w b T cs) (e : w' = w.alloc ob) : Bx w' b T cs := by subst e; exact h.alloc ob
theorem Row.al {w w' : World} {g n : Nat} {xs : List Nat} {ob : Obj} (h : Row w g n xs) (e : w' = w.alloc ob) : Row w' g n xs := by subst e; exact h.alloc ob
theorem bal {W w w' : World} {ob : Obj} (h : Below W.heap.size W w) (e : w' = w.alloc ob) : Below W.heap.size W w' := by subst e; exact bnew h
theorem bxn {w w' : World} {T : TypeId} {cs : Array Value} (e : w' = w.alloc (.cells cs T)) : Bx w' w.heap.size T cs := by subst e; exact Bx.new _ _ _

theorem gath_Spread : Gath 112 maxL :=
  ⟨fun _ _ => call_enter Try.func112 (by kernel_rfl) (by kernel_rfl) _ _, fun zs b n c u h1 h2 h3 h4 h5 => key_Spread1 zs b n c u h1 h2 h3 h4 h5, fun zs h1 h2 => h2 _ (maxL_spec zs h1).1⟩
theorem gath_Shrink : Gath 111 minL :=
  ⟨fun _ _ => call_enter Try.func111 (by kernel_rfl) (by kernel_rfl) _ _, fun zs b n c u h1 h2 h3 h4 h5 => key_Shrink1 zs b n c u h1 h2 h3 h4 h5, fun zs h1 h2 => h2 _ (minL_spec zs h1).1⟩

theorem matte_ok {x y : Int} {w h M : Nat} (hM : M = w * h) (hx1 : -2000 ≤ x) (hx2 : x ≤ 2000) (hy1 : -2000 ≤ y) (hy2 : y ≤ 2000) (hw0 : 1 ≤ w) (hh0 : 1 ≤ h) (hw : w ≤ 64) (hh : h ≤ 64) : checkMatte x y w h M = 0 := by
  have hb : (w : Int) * (h : Int) ≤ 64 * 64 := Int.mul_le_mul (by omega) (by omega) (by omega) (by omega)
  have hr := checkRegion_of (x := x) (y := y) (w := w) (h := h) (by omega) (by omega) (by omega) (by omega) (by omega) (by omega) (by omega) (by omega) (by omega)
  unfold checkMatte
  rw [if_pos hr, if_pos (by rw [hM, Int.natCast_mul])]

set_option maxRecDepth 100000 in
set_option maxHeartbeats 1000000 in
theorem key_Spread (x y : Int) (w h r pw ph N M b c : Nat) (A : Nat → Nat → Nat) (W : World) (hM : M = w * h) (hr : r ≤ 16) (hx1 : -2000 ≤ x) (hx2 : x ≤ 2000) (hy1 : -2000 ≤ y) (hy2 : y ≤ 2000)
    (hw : w ≤ 64) (hh : h ≤ 64) (hpw : w = pw + 2 * r) (hph : h = ph + 2 * r) (hp1 : 1 ≤ pw) (hp2 : 1 ≤ ph) (hN : N = pw * ph) (hA : ∀ x y, A x y ≤ 1024) (hMc : M ≤ c) (hrd : Rd W b 0 ((gridL w h A).map qW)) :
    Calls Try.prog 51 #[.agg #[.int .i64 x, .int .i64 y, .int .i64 w, .int .i64 h, .slice (some ⟨b, 0, none⟩) M c], .int .i64 r] W fun e w' =>
      ∃ g, e = .returned (.tuple #[.agg #[.int .i64 (x + r), .int .i64 (y + r), .int .i64 pw, .int .i64 ph, .slice (some ⟨g, 0, none⟩) N N], .int .i64 0]) ∧ W.heap.size ≤ g ∧ Row w' g N ((gridL pw ph (dil (2 * r + 1) A)).map qW) ∧ Below W.heap.size W w' := by
  have B0 := bnew (ob := .cells #[.int .i64 0, .int .i64 0, .int .i64 0, .int .i64 0, .slice none 0 0] 62) (bnew (ob := .cells #[.int .i64 x, .int .i64 y, .int .i64 w, .int .i64 h, .slice (some ⟨b, 0, none⟩) M c] 62) (Below.refl _ W))
  have hct := fun u : World => fun (hu : Rd u b 0 ((gridL w h A).map qW)) => key_around x y w h r pw ph (2 * r + 1) ((2 * r + 1) * (2 * r + 1)) N M b c A _ _ u (matte_ok hM hx1 hx2 hy1 hy2 (by omega) (by omega) hw hh) hM hr hx1 hx2 hy1 hy2 (by omega) (by omega) hpw hph hp1 hp2 rfl rfl hN hA gath_Spread hMc hu
  have Hct := Lib.hid hct
  have hN2 := hN
  have Hx := Lib.hid (And.intro hM (And.intro hpw (And.intro hph hN2)))
  clear hct hM hpw hph hN hN2 hA
  go_enter Try.func51, Try.ntmps51
  go_wp2_with fail
  refine (Hct.out _ (hrd.keep B0)).mono ?_
  rintro e w1 ⟨g, rfl, hg, hrow, hb1⟩
  have x2 := (Bx.at (w := W.alloc (.cells #[.int .i64 x, .int .i64 y, .int .i64 w, .int .i64 h, .slice (some ⟨b, 0, none⟩) M c] 62)) (T := 62) (cs := #[.int .i64 0, .int .i64 0, .int .i64 0, .int .i64 0, .slice none 0 0]) (W.heap.size + 1) (by simp)).keep hb1
  have B1 := bcall B0 hb1
  simp at hg
  clear hb1 hrd B0
  obtain ⟨q2, f2, l2⟩ := x2.all
  go_wp2_with fail
  refine bodyPost_ret (v := .tuple #[.agg #[.int .i64 (x + r), .int .i64 (y + r), .int .i64 pw, .int .i64 ph, .slice (some ⟨g, 0, none⟩) N N], .int .i64 0]) (by simp [results, Try.results51, go_sem, q2]) rfl ⟨g, rfl, by omega, ?_, ?_⟩
  · repeat (refine Row.other' (by omega) ?_)
    exact hrow
  · repeat (refine bput (by omega) ?_)
    exact B1

set_option maxRecDepth 100000 in
set_option maxHeartbeats 1000000 in
theorem key_Spread_empty (x y : Int) (w h r M b c : Nat) (W : World) (hM : M = w * h) (hr : r ≤ 16) (hx1 : -2000 ≤ x) (hx2 : x ≤ 2000) (hy1 : -2000 ≤ y) (hy2 : y ≤ 2000) (hw0 : 1 ≤ w) (hh0 : 1 ≤ h) (hw : w ≤ 64) (hh : h ≤ 64) (he : w ≤ 2 * r ∨ h ≤ 2 * r) :
    Calls Try.prog 51 #[.agg #[.int .i64 x, .int .i64 y, .int .i64 w, .int .i64 h, .slice (some ⟨b, 0, none⟩) M c], .int .i64 r] W fun e w' =>
      e = .returned (.tuple #[.agg #[.int .i64 0, .int .i64 0, .int .i64 0, .int .i64 0, .slice none 0 0], .int .i64 10]) ∧ Below W.heap.size W w' := by
  have B0 := bnew (ob := .cells #[.int .i64 0, .int .i64 0, .int .i64 0, .int .i64 0, .slice none 0 0] 62) (bnew (ob := .cells #[.int .i64 x, .int .i64 y, .int .i64 w, .int .i64 h, .slice (some ⟨b, 0, none⟩) M c] 62) (Below.refl _ W))
  have hct := fun (u : World) (cf : FuncId) => key_around_empty x y w h r M b c cf u (matte_ok hM hx1 hx2 hy1 hy2 hw0 hh0 hw hh) hr hx1 hx2 hy1 hy2 (by omega) (by omega) he
  have Hct := Lib.hid hct
  clear hct hM he
  go_enter Try.func51, Try.ntmps51
  go_wp2_with fail
  refine (Hct.out _ _).mono ?_
  rintro e w1 ⟨rfl, hb1⟩
  have x2 := (Bx.at (w := W.alloc (.cells #[.int .i64 x, .int .i64 y, .int .i64 w, .int .i64 h, .slice (some ⟨b, 0, none⟩) M c] 62)) (T := 62) (cs := #[.int .i64 0, .int .i64 0, .int .i64 0, .int .i64 0, .slice none 0 0]) (W.heap.size + 1) (by simp)).keep hb1
  have B1 := bcall B0 hb1
  clear hb1 B0
  obtain ⟨q2, f2, l2⟩ := x2.all
  go_wp2_with fail
  have y2 := (set5 x2 (.int .i64 0) (.int .i64 0) (.int .i64 0) (.int .i64 0) (.slice none 0 0)).1.all.1
  refine bodyPost_ret (v := .tuple #[.agg #[.int .i64 0, .int .i64 0, .int .i64 0, .int .i64 0, .slice none 0 0], .int .i64 10]) (by simp [results, Try.results51, go_sem, q2]) rfl ⟨rfl, ?_⟩
  repeat (refine bput (by omega) ?_)
  exact B1

theorem key_Spread_at (x y X Y : Int) (w h r pw ph N M b c : Nat) (A : Nat → Nat → Nat) (W : World) (hX : X = x + r) (hY : Y = y + r) (hM : M = w * h) (hr : r ≤ 16) (hx1 : -2000 ≤ x) (hx2 : x ≤ 2000) (hy1 : -2000 ≤ y) (hy2 : y ≤ 2000)
    (hw : w ≤ 64) (hh : h ≤ 64) (hpw : w = pw + 2 * r) (hph : h = ph + 2 * r) (hp1 : 1 ≤ pw) (hp2 : 1 ≤ ph) (hN : N = pw * ph) (hA : ∀ x y, A x y ≤ 1024) (hMc : M ≤ c) (hrd : Rd W b 0 ((gridL w h A).map qW)) :
    Calls Try.prog 51 #[.agg #[.int .i64 x, .int .i64 y, .int .i64 w, .int .i64 h, .slice (some ⟨b, 0, none⟩) M c], .int .i64 r] W fun e w' =>
      ∃ g, e = .returned (.tuple #[.agg #[.int .i64 X, .int .i64 Y, .int .i64 pw, .int .i64 ph, .slice (some ⟨g, 0, none⟩) N N], .int .i64 0]) ∧ W.heap.size ≤ g ∧ Row w' g N ((gridL pw ph (dil (2 * r + 1) A)).map qW) ∧ Below W.heap.size W w' := by
  subst hX hY
  exact key_Spread x y w h r pw ph N M b c A W hM hr hx1 hx2 hy1 hy2 hw hh hpw hph hp1 hp2 hN hA hMc hrd

set_option maxRecDepth 100000 in
set_option maxHeartbeats 1000000 in
theorem key_Shrink (x y : Int) (w h r pw ph N M b c : Nat) (A : Nat → Nat → Nat) (W : World) (hM : M = w * h) (hr : r ≤ 16) (hx1 : -2000 ≤ x) (hx2 : x ≤ 2000) (hy1 : -2000 ≤ y) (hy2 : y ≤ 2000)
    (hw : w ≤ 64) (hh : h ≤ 64) (hpw : w = pw + 2 * r) (hph : h = ph + 2 * r) (hp1 : 1 ≤ pw) (hp2 : 1 ≤ ph) (hN : N = pw * ph) (hA : ∀ x y, A x y ≤ 1024) (hMc : M ≤ c) (hrd : Rd W b 0 ((gridL w h A).map qW)) :
    Calls Try.prog 50 #[.agg #[.int .i64 x, .int .i64 y, .int .i64 w, .int .i64 h, .slice (some ⟨b, 0, none⟩) M c], .int .i64 r] W fun e w' =>
      ∃ g, e = .returned (.tuple #[.agg #[.int .i64 (x + r), .int .i64 (y + r), .int .i64 pw, .int .i64 ph, .slice (some ⟨g, 0, none⟩) N N], .int .i64 0]) ∧ W.heap.size ≤ g ∧ Row w' g N ((gridL pw ph (ero (2 * r + 1) A)).map qW) ∧ Below W.heap.size W w' := by
  have B0 := bnew (ob := .cells #[.int .i64 0, .int .i64 0, .int .i64 0, .int .i64 0, .slice none 0 0] 62) (bnew (ob := .cells #[.int .i64 x, .int .i64 y, .int .i64 w, .int .i64 h, .slice (some ⟨b, 0, none⟩) M c] 62) (Below.refl _ W))
  have hct := fun u : World => fun (hu : Rd u b 0 ((gridL w h A).map qW)) => key_around x y w h r pw ph (2 * r + 1) ((2 * r + 1) * (2 * r + 1)) N M b c A _ _ u (matte_ok hM hx1 hx2 hy1 hy2 (by omega) (by omega) hw hh) hM hr hx1 hx2 hy1 hy2 (by omega) (by omega) hpw hph hp1 hp2 rfl rfl hN hA gath_Shrink hMc hu
  have Hct := Lib.hid hct
  have hN2 := hN
  have Hx := Lib.hid (And.intro hM (And.intro hpw (And.intro hph hN2)))
  clear hct hM hpw hph hN hN2 hA
  go_enter Try.func50, Try.ntmps50
  go_wp2_with fail
  refine (Hct.out _ (hrd.keep B0)).mono ?_
  rintro e w1 ⟨g, rfl, hg, hrow, hb1⟩
  have x2 := (Bx.at (w := W.alloc (.cells #[.int .i64 x, .int .i64 y, .int .i64 w, .int .i64 h, .slice (some ⟨b, 0, none⟩) M c] 62)) (T := 62) (cs := #[.int .i64 0, .int .i64 0, .int .i64 0, .int .i64 0, .slice none 0 0]) (W.heap.size + 1) (by simp)).keep hb1
  have B1 := bcall B0 hb1
  simp at hg
  clear hb1 hrd B0
  obtain ⟨q2, f2, l2⟩ := x2.all
  go_wp2_with fail
  refine bodyPost_ret (v := .tuple #[.agg #[.int .i64 (x + r), .int .i64 (y + r), .int .i64 pw, .int .i64 ph, .slice (some ⟨g, 0, none⟩) N N], .int .i64 0]) (by simp [results, Try.results50, go_sem, q2]) rfl ⟨g, rfl, by omega, ?_, ?_⟩
  · repeat (refine Row.other' (by omega) ?_)
    exact hrow
  · repeat (refine bput (by omega) ?_)
    exact B1

set_option maxRecDepth 100000 in
set_option maxHeartbeats 1000000 in
theorem key_Shrink_empty (x y : Int) (w h r M b c : Nat) (W : World) (hM : M = w * h) (hr : r ≤ 16) (hx1 : -2000 ≤ x) (hx2 : x ≤ 2000) (hy1 : -2000 ≤ y) (hy2 : y ≤ 2000) (hw0 : 1 ≤ w) (hh0 : 1 ≤ h) (hw : w ≤ 64) (hh : h ≤ 64) (he : w ≤ 2 * r ∨ h ≤ 2 * r) :
    Calls Try.prog 50 #[.agg #[.int .i64 x, .int .i64 y, .int .i64 w, .int .i64 h, .slice (some ⟨b, 0, none⟩) M c], .int .i64 r] W fun e w' =>
      e = .returned (.tuple #[.agg #[.int .i64 0, .int .i64 0, .int .i64 0, .int .i64 0, .slice none 0 0], .int .i64 10]) ∧ Below W.heap.size W w' := by
  have B0 := bnew (ob := .cells #[.int .i64 0, .int .i64 0, .int .i64 0, .int .i64 0, .slice none 0 0] 62) (bnew (ob := .cells #[.int .i64 x, .int .i64 y, .int .i64 w, .int .i64 h, .slice (some ⟨b, 0, none⟩) M c] 62) (Below.refl _ W))
  have hct := fun (u : World) (cf : FuncId) => key_around_empty x y w h r M b c cf u (matte_ok hM hx1 hx2 hy1 hy2 hw0 hh0 hw hh) hr hx1 hx2 hy1 hy2 (by omega) (by omega) he
  have Hct := Lib.hid hct
  clear hct hM he
  go_enter Try.func50, Try.ntmps50
  go_wp2_with fail
  refine (Hct.out _ _).mono ?_
  rintro e w1 ⟨rfl, hb1⟩
  have x2 := (Bx.at (w := W.alloc (.cells #[.int .i64 x, .int .i64 y, .int .i64 w, .int .i64 h, .slice (some ⟨b, 0, none⟩) M c] 62)) (T := 62) (cs := #[.int .i64 0, .int .i64 0, .int .i64 0, .int .i64 0, .slice none 0 0]) (W.heap.size + 1) (by simp)).keep hb1
  have B1 := bcall B0 hb1
  clear hb1 B0
  obtain ⟨q2, f2, l2⟩ := x2.all
  go_wp2_with fail
  have y2 := (set5 x2 (.int .i64 0) (.int .i64 0) (.int .i64 0) (.int .i64 0) (.slice none 0 0)).1.all.1
  refine bodyPost_ret (v := .tuple #[.agg #[.int .i64 0, .int .i64 0, .int .i64 0, .int .i64 0, .slice none 0 0], .int .i64 10]) (by simp [results, Try.results50, go_sem, q2]) rfl ⟨rfl, ?_⟩
  repeat (refine bput (by omega) ?_)
  exact B1

theorem key_Shrink_at (x y X Y : Int) (w h r pw ph N M b c : Nat) (A : Nat → Nat → Nat) (W : World) (hX : X = x + r) (hY : Y = y + r) (hM : M = w * h) (hr : r ≤ 16) (hx1 : -2000 ≤ x) (hx2 : x ≤ 2000) (hy1 : -2000 ≤ y) (hy2 : y ≤ 2000)
    (hw : w ≤ 64) (hh : h ≤ 64) (hpw : w = pw + 2 * r) (hph : h = ph + 2 * r) (hp1 : 1 ≤ pw) (hp2 : 1 ≤ ph) (hN : N = pw * ph) (hA : ∀ x y, A x y ≤ 1024) (hMc : M ≤ c) (hrd : Rd W b 0 ((gridL w h A).map qW)) :
    Calls Try.prog 50 #[.agg #[.int .i64 x, .int .i64 y, .int .i64 w, .int .i64 h, .slice (some ⟨b, 0, none⟩) M c], .int .i64 r] W fun e w' =>
      ∃ g, e = .returned (.tuple #[.agg #[.int .i64 X, .int .i64 Y, .int .i64 pw, .int .i64 ph, .slice (some ⟨g, 0, none⟩) N N], .int .i64 0]) ∧ W.heap.size ≤ g ∧ Row w' g N ((gridL pw ph (ero (2 * r + 1) A)).map qW) ∧ Below W.heap.size W w' := by
  subst hX hY
  exact key_Shrink x y w h r pw ph N M b c A W hM hr hx1 hx2 hy1 hy2 hw hh hpw hph hp1 hp2 hN hA hMc hrd

/-- The side that fitMatte makes. -/
theorem side15 (w : Int) : ∃ s : Nat, 1 + bits .and .i64 w 15 = (s : Int) ∧ 1 ≤ s ∧ s ≤ 16 := by
  have := and_small w 15 (by omega) (by omega)
  exact ⟨(1 + bits .and .i64 w 15).toNat, by omega, by omega, by omega⟩

set_option maxRecDepth 100000 in
set_option maxHeartbeats 1000000 in
theorem law_fitMatte (x y w h : Int) (v : Value) (xs : List Nat) (W : World) (hs1 : Sl W v xs) :
    Calls Try.prog 48 #[.agg #[.int .i64 x, .int .i64 y, .int .i64 w, .int .i64 h, v]] W fun e w' =>
      ∃ (sw sh M g : Nat), 1 ≤ sw ∧ sw ≤ 16 ∧ 1 ≤ sh ∧ sh ≤ 16 ∧ e = .returned (.agg #[.int .i64 (fitPlace x), .int .i64 (fitPlace y), .int .i64 sw, .int .i64 sh, .slice (some ⟨g, 0, none⟩) M M]) ∧ Below W.heap.size W w' := by
  have hv1 : v.cells = #[v] := by rcases hs1 with ⟨b, o, c, rfl, _⟩ | ⟨_, a, c, rfl⟩ <;> rfl
  obtain ⟨sw, hsw, hsw1, hsw2⟩ := side15 w
  obtain ⟨sh, hsh, hsh1, hsh2⟩ := side15 h
  have ha1 := and_small w 15 (by omega) (by omega)
  have ha2 := and_small h 15 (by omega) (by omega)
  have Hw := Lib.hid hsw
  have Hh := Lib.hid hsh
  clear hsw hsh
  go_enter Try.func48, Try.ntmps48
  go_wp2_with fail
  rw [Hw.out, Hh.out]
  refine name_callw ?_
  intro wb hwb
  have B0 : Below W.heap.size W wb := by
    rw [hwb]
    repeat (refine bput (by omega) ?_)
    exact bnew (bnew (Below.refl _ W))
  have x2 : Bx wb (W.heap.size + 1) 62 #[.int .i64 0, .int .i64 0, .int .i64 0, .int .i64 0, .slice none 0 0] := by
    rw [hwb]
    repeat (refine Bx.other ?_ _ _ (by dsimp only; omega))
    exact Bx.at _ (by simp)
  clear hwb
  refine (law_matteOf _ _ _ _ _ _ _ _ (sw * sh) _ xs _ (hs1.keep B0) (by rw [Int.natCast_mul]) (by omega) (by omega) (by omega) (by omega)).mono ?_
  rintro e w1 ⟨g, rfl, hg, hrow, hb1⟩
  have y2 := x2.keep hb1
  have B1 := bcall B0 hb1
  clear x2 hb1 hrow
  obtain ⟨q2, f2, l2⟩ := y2.all
  go_wp2_with fail
  have hfx : imin (imax x (-1000)) 1000 = fitPlace x := rfl
  have hfy : imin (imax y (-1000)) 1000 = fitPlace y := rfl
  refine bodyPost_ret (v := .agg #[.int .i64 (fitPlace x), .int .i64 (fitPlace y), .int .i64 sw, .int .i64 sh, .slice (some ⟨g, 0, none⟩) (sw * sh) (sw * sh)]) (by simp [results, Try.results48, go_sem, q2, hfx, hfy]) rfl ⟨sw, sh, sw * sh, g, hsw1, hsw2, hsh1, hsh2, rfl, ?_⟩
  repeat (refine bput (by omega) ?_)
  exact B1
end Go.Proofs.Ytoffnmpnhddaiaa
