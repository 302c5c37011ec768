/- The closure of Zebra. -/
import Derived.Test.YtoffnmpnhddaiaaCol1
import Derived.Test.YtoffnmpnhddaiaaRgc
namespace Go.Proofs.Ytoffnmpnhddaiaa
open Go.RowKit

/-- Not less, as Go's >= asks it. -/
def geB (a b : Nat) : Bool := FloatKind.f32.format.order a b == some .gt || FloatKind.f32.format.order a b == some .eq
/-- A striped pixel. -/
def zebP (ge : Bool) (q : Int) (p : Nat → Nat) (c : Nat) : Nat := if ge then (if c = 3 then p 3 else if q % 2 = 0 then 1065353216 else 0) else p c

theorem floor_cases (s wd : Int) (h : 0 < wd) : (0 ≤ s.tmod wd ∧ s.tdiv wd = s / wd) ∨ (s.tmod wd < 0 ∧ s.tdiv wd - 1 = s / wd) := by
  have hd := floor_of s wd h
  rcases Int.lt_or_le (s.tmod wd) 0 with h0 | h0
  · exact .inr ⟨h0, (hd.1 h0).1.symm⟩
  · exact .inl ⟨h0, (hd.2 h0).1.symm⟩
theorem tdiv_bd (s wd B : Int) (h1 : -B ≤ s) (h2 : s ≤ B) : -B ≤ s.tdiv wd ∧ s.tdiv wd ≤ B := by
  have h3 := Int.natAbs_tdiv_le_natAbs s wd
  omega
theorem even_tmod (n : Int) : (n.tmod 2 = 0) ↔ (n % 2 = 0) := by
  constructor
  · intro h; exact Int.emod_eq_zero_of_dvd (Int.dvd_of_tmod_eq_zero h)
  · intro h; exact Int.tmod_eq_zero_of_dvd (Int.dvd_of_emod_eq_zero h)

set_option maxRecDepth 100000 in
set_option maxHeartbeats 1000000 in
theorem scope_Zebra1 (X Y wd : Int) (y lv pv pw : Nat) (T1 T2 : TypeId) (p : Nat → Nat) (W : World) (hX1 : -4000000 ≤ X) (hX2 : X ≤ 4000000) (hY1 : -4000000 ≤ Y) (hY2 : Y ≤ 4000000) (hw1 : 1 ≤ wd) (hw2 : wd ≤ 64)
    (hv : Bx W pv T1 #[.float .f32 lv]) (hp : Bx W pw T2 #[.int .i64 wd]) :
    Calls Try.prog 121 #[.int .i64 X, .int .i64 Y, .float .f32 y, .agg #[.float .f32 (p 0), .float .f32 (p 1), .float .f32 (p 2), .float .f32 (p 3)], .pointer (some ⟨pv, 0, none⟩), .pointer (some ⟨pw, 0, none⟩)] W fun e w' =>
      e = .returned (.agg #[.float .f32 (zebP (geB y lv) ((X + Y) / wd) p 0), .float .f32 (zebP (geB y lv) ((X + Y) / wd) p 1), .float .f32 (zebP (geB y lv) ((X + Y) / wd) p 2), .float .f32 (zebP (geB y lv) ((X + Y) / wd) p 3)]) ∧ Below W.heap.size W w' := by
  have hz : ∀ c, zebP (geB y lv) ((X + Y) / wd) p c = if geB y lv then (if c = 3 then p 3 else if ((X + Y) / wd) % 2 = 0 then 1065353216 else 0) else p c := fun c => rfl
  have hz0 := hz 0
  have hz1 := hz 1
  have hz2 := hz 2
  have hz3 := hz 3
  clear hz
  generalize zebP (geB y lv) ((X + Y) / wd) p 0 = r0 at *
  generalize zebP (geB y lv) ((X + Y) / wd) p 1 = r1 at *
  generalize zebP (geB y lv) ((X + Y) / wd) p 2 = r2 at *
  generalize zebP (geB y lv) ((X + Y) / wd) p 3 = r3 at *
  generalize p 0 = p0 at *
  generalize p 1 = p1 at *
  generalize p 2 = p2 at *
  generalize p 3 = p3 at *
  have Hz := Lib.hid (And.intro hz0 (And.intro hz1 (And.intro hz2 hz3)))
  clear hz0 hz1 hz2 hz3
  have hpl := hp.lt
  have hvl := hv.lt
  go_enter Try.func121, Try.ntmps121
  go_upto_region 1 with fail
  refine name_world ?_
  intro wb hwb
  have x9 : Bx wb W.heap.size 35 #[.float .f32 p0, .float .f32 p1, .float .f32 p2, .float .f32 p3] := by rw [hwb]; exact Bx.alloc (Bx.new _ _ _) _
  have x10 : Bx wb (W.heap.size + 1) 35 #[.float .f32 0, .float .f32 0, .float .f32 0, .float .f32 0] := by rw [hwb]; exact Bx.at _ (by simp)
  have B0 : Below W.heap.size W wb := by rw [hwb]; exact bnew (bnew (Below.refl _ W))
  clear hwb
  have zv := hv.keep B0
  have zp := hp.keep B0
  clear hv hp
  obtain ⟨qv, fv, lv1⟩ := zv.all
  obtain ⟨qp, fp, lp⟩ := zp.all
  obtain ⟨q9, f9, l9⟩ := x9.all
  obtain ⟨q10, f10, l10⟩ := x10.all
  cases hge : geB y lv
  · have ho : (FloatKind.f32.format.order y lv == some .gt || FloatKind.f32.format.order y lv == some .eq) = false := hge
    have Hg := Lib.hid hge
    clear hge
    go_wp2_with fail
    have yz := (set4 x10 (.float .f32 p0) (.float .f32 p1) (.float .f32 p2) (.float .f32 p3)).1.all.1
    refine bodyPost_ret (v := .agg #[.float .f32 p0, .float .f32 p1, .float .f32 p2, .float .f32 p3]) (by simp [results, Try.results121, go_sem, yz]) rfl ⟨?_, bput (by omega) (bput (by omega) (bput (by omega) (bput (by omega) B0)))⟩
    obtain ⟨e0, e1, e2, e3⟩ := Hz.out
    simp only [Hg.out, Bool.false_eq_true, if_false] at e0 e1 e2 e3
    rw [e0, e1, e2, e3]
  · have ho : (FloatKind.f32.format.order y lv == some .gt || FloatKind.f32.format.order y lv == some .eq) = true := hge
    have Hg := Lib.hid hge
    clear hge
    obtain ⟨b1, b2⟩ := tdiv_bd (X + Y) wd 10000000 (by omega) (by omega)
    have hne : ¬ wd = 0 := by omega
    rcases floor_cases (X + Y) wd (by omega) with ⟨t1, t2⟩ | ⟨t1, t2⟩
    · by_cases hev : ((X + Y) / wd) % 2 = 0
      · have hq : ((X + Y).tdiv wd).tmod 2 = 0 := by rw [t2]; exact (even_tmod _).2 hev
        have Hev := Lib.hid hev
        clear hev t2
        go_wp2_with fail
        have yz := (set4 x10 (.float .f32 1065353216) (.float .f32 1065353216) (.float .f32 1065353216) (.float .f32 p3)).1.all.1
        refine bodyPost_ret (v := .agg #[.float .f32 1065353216, .float .f32 1065353216, .float .f32 1065353216, .float .f32 p3]) (by simp [results, Try.results121, go_sem, yz]) rfl ⟨?_, bput (by omega) (bput (by omega) (bput (by omega) (bput (by omega) B0)))⟩
        obtain ⟨e0, e1, e2, e3⟩ := Hz.out
        simp [Hg.out, Hev.out] at e0 e1 e2 e3
        rw [e0, e1, e2, e3]
      · have hq : ¬ ((X + Y).tdiv wd).tmod 2 = 0 := by rw [t2]; exact fun h => hev ((even_tmod _).1 h)
        have Hev := Lib.hid hev
        clear hev t2
        go_wp2_with fail
        have yz := (set4 x10 (.float .f32 0) (.float .f32 0) (.float .f32 0) (.float .f32 p3)).1.all.1
        refine bodyPost_ret (v := .agg #[.float .f32 0, .float .f32 0, .float .f32 0, .float .f32 p3]) (by simp [results, Try.results121, go_sem, yz]) rfl ⟨?_, bput (by omega) (bput (by omega) (bput (by omega) (bput (by omega) B0)))⟩
        obtain ⟨e0, e1, e2, e3⟩ := Hz.out
        simp [Hg.out, Hev.out] at e0 e1 e2 e3
        rw [e0, e1, e2, e3]
    · by_cases hev : ((X + Y) / wd) % 2 = 0
      · have hq : ((X + Y).tdiv wd - 1).tmod 2 = 0 := by rw [t2]; exact (even_tmod _).2 hev
        have Hev := Lib.hid hev
        clear hev t2
        go_wp2_with fail
        have yz := (set4 x10 (.float .f32 1065353216) (.float .f32 1065353216) (.float .f32 1065353216) (.float .f32 p3)).1.all.1
        refine bodyPost_ret (v := .agg #[.float .f32 1065353216, .float .f32 1065353216, .float .f32 1065353216, .float .f32 p3]) (by simp [results, Try.results121, go_sem, yz]) rfl ⟨?_, bput (by omega) (bput (by omega) (bput (by omega) (bput (by omega) B0)))⟩
        obtain ⟨e0, e1, e2, e3⟩ := Hz.out
        simp [Hg.out, Hev.out] at e0 e1 e2 e3
        rw [e0, e1, e2, e3]
      · have hq : ¬ ((X + Y).tdiv wd - 1).tmod 2 = 0 := by rw [t2]; exact fun h => hev ((even_tmod _).1 h)
        have Hev := Lib.hid hev
        clear hev t2
        go_wp2_with fail
        have yz := (set4 x10 (.float .f32 0) (.float .f32 0) (.float .f32 0) (.float .f32 p3)).1.all.1
        refine bodyPost_ret (v := .agg #[.float .f32 0, .float .f32 0, .float .f32 0, .float .f32 p3]) (by simp [results, Try.results121, go_sem, yz]) rfl ⟨?_, bput (by omega) (bput (by omega) (bput (by omega) (bput (by omega) B0)))⟩
        obtain ⟨e0, e1, e2, e3⟩ := Hz.out
        simp [Hg.out, Hev.out] at e0 e1 e2 e3
        rw [e0, e1, e2, e3]
end Go.Proofs.Ytoffnmpnhddaiaa
