/- The reference's closure of False. -/
import Derived.Test.YtoffnmpnhddaiaaCol2
namespace Go.Proofs.Ytoffnmpnhddaiaa
open Go.RowKit

set_option maxRecDepth 100000 in
set_option maxHeartbeats 1000000 in
theorem ref_False1 (wa wb_ wc pw pl lb lo n c : Nat) (Tw T : TypeId) (p : Nat → Nat) (ls : List Nat) (W : World) (hl : ls.length = 5 * n) (hn : n ≤ 1000) (hrd : Rd W lb lo ls) (hpw : Bx W pw Tw #[.float .f32 wa, .float .f32 wb_, .float .f32 wc]) (hp : Bx W pl T #[.slice (some ⟨lb, lo, none⟩) n c]) :
    Calls Try.prog 119 #[.agg #[.float .f32 (p 0), .float .f32 (p 1), .float .f32 (p 2), .float .f32 (p 3)], .pointer (some ⟨pw, 0, none⟩), .pointer (some ⟨pl, 0, none⟩)] W fun e w' =>
      e = .returned (.agg #[.float .f32 (falseP ls (lumaV wa wb_ wc p) (p 3) n 0), .float .f32 (falseP ls (lumaV wa wb_ wc p) (p 3) n 1), .float .f32 (falseP ls (lumaV wa wb_ wc p) (p 3) n 2), .float .f32 (falseP ls (lumaV wa wb_ wc p) (p 3) n 3)]) ∧ Below W.heap.size W w' := by
  have hct := fun u => ref_LumaOf wa wb_ wc p u
  generalize lumaV wa wb_ wc p = y at *
  generalize p 0 = p0 at *
  generalize p 1 = p1 at *
  generalize p 2 = p2 at *
  generalize p 3 = p3 at *
  have Hct := Lib.hid hct
  clear hct
  have Hl := Lib.hid hl
  clear hl
  have hlb := hrd.lt
  have hpl := hp.lt
  have hpw2 := hpw.lt
  go_enter Try.func119, Try.ntmps119
  go_upto_region 1 with fail
  refine name_world ?_
  intro wz hwz
  have x3 : Bx wz W.heap.size 35 #[.float .f32 p0, .float .f32 p1, .float .f32 p2, .float .f32 p3] := by rw [hwz]; exact Bx.alloc (Bx.new _ _ _) _
  have x4 : Bx wz (W.heap.size + 1) 35 #[.float .f32 0, .float .f32 0, .float .f32 0, .float .f32 0] := by rw [hwz]; exact Bx.at _ (by simp)
  have B0 : Below W.heap.size W wz := by rw [hwz]; exact bnew (bnew (Below.refl _ W))
  clear hwz
  have zw := hpw.keep B0
  obtain ⟨qw, fw, lw⟩ := zw.all
  obtain ⟨q3, f3, l3⟩ := x3.all
  go_wp2_with fail
  refine (Hct.out _).mono ?_
  rintro e w1 ⟨rfl, hb1⟩
  have x3a := x3.keep hb1
  have x9 := x4.keep hb1
  have B1 := bcall B0 hb1
  clear x3 x4 B0 hb1 qw fw lw q3 f3 l3 zw
  obtain ⟨q3, f3, l3⟩ := x3a.all
  go_upto_region 3 with fail
  refine name_world ?_
  intro wb hwb
  have x10 : Bx wb w1.heap.size 35 #[.float .f32 y, .float .f32 y, .float .f32 y, .float .f32 p3] := by rw [hwb]; exact Bx.new _ _ _
  have x9b : Bx wb (W.heap.size + 1) 35 #[.float .f32 0, .float .f32 0, .float .f32 0, .float .f32 0] := by rw [hwb]; exact x9.alloc _
  have B2 : Below W.heap.size W wb := by rw [hwb]; exact bnew B1
  have zp := hp.keep B2
  have hpo := x9.lt
  obtain ⟨qp, fp, lp⟩ := zp.all
  clear hwb x9 B1 x3a q3 f3 l3
  generalize w1.heap.size = po at *
  go_wp2_with fail
  clear qp fp lp
  go_loopw [20] (fun i wr => ∃ k : Nat, k ≤ n ∧ i = .int .i64 (k : Int) ∧ Bx wr (W.heap.size + 1) 35 #[.float .f32 0, .float .f32 0, .float .f32 0, .float .f32 0] ∧
    Bx wr po 35 #[.float .f32 (falseP ls y p3 k 0), .float .f32 (falseP ls y p3 k 1), .float .f32 (falseP ls y p3 k 2), .float .f32 (falseP ls y p3 k 3)] ∧ Below W.heap.size W wr) (fun i _ => n - (intOf i).toNat)
  case atStart => exact ⟨0, by omega, rfl, x9b, x10, B2⟩
  case round =>
    clear x9b x10 B2
    obtain ⟨k, hk, rfl, x9, x10, hbl⟩ := hrel
    by_cases hlt : k < n
    · have hki : (k : Int) < (n : Int) := by omega
      have hr := hrd.keep hbl
      have c0 : wr.cell? ⟨lb, lo + k * 5, none⟩ = _ := hr.cell (k * 5) (by rw [Hl.out]; omega)
      have c1 : wr.cell? ⟨lb, lo + k * 5 + 1, none⟩ = some (.float .f32 (ls.getD (k * 5 + 1) 0)) := by rw [Nat.add_assoc]; exact hr.cell (k * 5 + 1) (by rw [Hl.out]; omega)
      have c2 : wr.cell? ⟨lb, lo + k * 5 + 2, none⟩ = some (.float .f32 (ls.getD (k * 5 + 2) 0)) := by rw [Nat.add_assoc]; exact hr.cell (k * 5 + 2) (by rw [Hl.out]; omega)
      have c3 : wr.cell? ⟨lb, lo + k * 5 + 3, none⟩ = some (.float .f32 (ls.getD (k * 5 + 3) 0)) := by rw [Nat.add_assoc]; exact hr.cell (k * 5 + 3) (by rw [Hl.out]; omega)
      have c4 : wr.cell? ⟨lb, lo + k * 5 + 4, none⟩ = some (.float .f32 (ls.getD (k * 5 + 4) 0)) := by rw [Nat.add_assoc]; exact hr.cell (k * 5 + 4) (by rw [Hl.out]; omega)
      obtain ⟨q10, f10, l10⟩ := x10.all
      clear hr
      have hs0 : falseP ls y p3 (k + 1) 0 = if leB (ls.getD (k * 5) 0) y then ls.getD (k * 5 + 1) 0 else falseP ls y p3 k 0 := rfl
      have hs1 : falseP ls y p3 (k + 1) 1 = if leB (ls.getD (k * 5) 0) y then ls.getD (k * 5 + 2) 0 else falseP ls y p3 k 1 := rfl
      have hs2 : falseP ls y p3 (k + 1) 2 = if leB (ls.getD (k * 5) 0) y then ls.getD (k * 5 + 3) 0 else falseP ls y p3 k 2 := rfl
      have hs3 : falseP ls y p3 (k + 1) 3 = if leB (ls.getD (k * 5) 0) y then ls.getD (k * 5 + 4) 0 else falseP ls y p3 k 3 := rfl
      generalize ls.getD (k * 5) 0 = b0 at *
      generalize ls.getD (k * 5 + 1) 0 = b1 at *
      generalize ls.getD (k * 5 + 2) 0 = b2 at *
      generalize ls.getD (k * 5 + 3) 0 = b3 at *
      generalize ls.getD (k * 5 + 4) 0 = b4 at *
      generalize falseP ls y p3 k 0 = d0 at *
      generalize falseP ls y p3 k 1 = d1 at *
      generalize falseP ls y p3 k 2 = d2 at *
      generalize falseP ls y p3 k 3 = d3 at *
      cases hle : leB b0 y
      · simp only [hle, Bool.false_eq_true, if_false] at hs0 hs1 hs2 hs3
        have Hs := Lib.hid (And.intro hs0 (And.intro hs1 (And.intro hs2 hs3)))
        have ho : (FloatKind.f32.format.order b0 y == some .lt || FloatKind.f32.format.order b0 y == some .eq) = false := hle
        clear hs0 hs1 hs2 hs3 hle
        go_wp2_with fail
        go_roundw
        case rel => exact ⟨k + 1, by omega, by go_num, x9.alloc _, by rw [Hs.out.1, Hs.out.2.1, Hs.out.2.2.1, Hs.out.2.2.2]; exact x10.alloc _, bnew hbl⟩
        case measure => simp [intOf]; omega
      · simp only [hle, if_true] at hs0 hs1 hs2 hs3
        have Hs := Lib.hid (And.intro hs0 (And.intro hs1 (And.intro hs2 hs3)))
        have ho : (FloatKind.f32.format.order b0 y == some .lt || FloatKind.f32.format.order b0 y == some .eq) = true := hle
        clear hs0 hs1 hs2 hs3 hle
        go_wp2_with fail
        have l10b := hbl.size
        go_roundw
        case rel =>
          obtain ⟨s1, o1⟩ := set4 x10 (.float .f32 b1) (.float .f32 b2) (.float .f32 b3) (.float .f32 b4)
          exact ⟨k + 1, by omega, by go_num, (o1.bx (by omega) x9).alloc _, by rw [Hs.out.1, Hs.out.2.1, Hs.out.2.2.1, Hs.out.2.2.2]; exact s1.alloc _, bnew (bonly hbl o1 (by omega))⟩
        case measure => simp [intOf]; omega
    · have hkn : k = n := by omega
      subst hkn
      obtain ⟨q10, f10, l10⟩ := x10.all
      obtain ⟨q9, f9, l9⟩ := x9.all
      go_wp2_with fail
      have y9 := (set4 x9 (.float .f32 (falseP ls y p3 k 0)) (.float .f32 (falseP ls y p3 k 1)) (.float .f32 (falseP ls y p3 k 2)) (.float .f32 (falseP ls y p3 k 3))).1.all.1
      exact bodyPost_ret (v := .agg #[.float .f32 (falseP ls y p3 k 0), .float .f32 (falseP ls y p3 k 1), .float .f32 (falseP ls y p3 k 2), .float .f32 (falseP ls y p3 k 3)]) (by simp [results, Try.results119, go_sem, y9]) rfl ⟨rfl, bput (by omega) (bput (by omega) (bput (by omega) (bput (by omega) hbl)))⟩
end Go.Proofs.Ytoffnmpnhddaiaa
