/- The mean of singles: num.Mean and dyeref1.mean; dyeref1.inOrder; num.Kind. -/
import Derived.Test.YtlfcedecobebmaaExB
import Derived.Test.YtlfcedecobebmaaExV
import Derived.Test.YtlfcedecobebmaaStE
import Derived.Test.YtlfcedecobebmaaSum
import Derived.Test.YtlfcedecobebmaaDbQ
import Derived.Test.YtlfcedecobebmaaNum
namespace Go.Proofs.Ytlfcedecobebmaa
open Go.RowKit

/-- The mean. -/
def meanV (n : Nat) (xs : List Nat) : Nat := fop .quo (sumC n xs) (floatOfInt .f32 (n : Int))

set_option maxRecDepth 100000 in
theorem num_Mean (b n c : Nat) (xs : List Nat) (W : World) (hx : xs.length = n) (h1 : 1 ≤ n) (h2 : n ≤ c) (hn : n ≤ 1000000) (hrd : Rd W b 0 xs) :
    Calls Try.prog 19 #[.slice (some ⟨b, 0, none⟩) n c] W fun e w' => e = .returned (.tuple #[.float .f32 (meanV n xs), .int .i64 0]) ∧ Below W.heap.size W w' := by
  have h0 : ((n : Int) == 0) = false := beq_eq_false_iff_ne.2 (by omega)
  unfold meanV
  obtain ⟨s, hs⟩ : ∃ s, s = sumC n xs := ⟨_, rfl⟩
  have hsum := num_Sum xs b 0 n c W hx h1 h2 hn hrd
  rw [← hs] at hsum ⊢
  clear hx hrd hs
  go_enter Try.func19, Try.ntmps19
  go_wp2_with fail
  refine hsum.mono ?_
  rintro e w1 ⟨rfl, hb1⟩
  go_wp2_with fail
  refine (num_Clean _ _).mono ?_
  rintro e w2 ⟨rfl, rfl⟩
  go_wp2_with fail
  go_ret2
  exact ⟨by rw [canon_fres]; rfl, below_drewN hb1 _⟩

/-- What a NaN gives in the other kind. -/
def nanV (k : FloatKind) (b : Nat) (w : World) : Nat := (Question.nanConv k b).cut (w.tape w.drawn (.nanConv k b))
theorem run_convert_nan {P : Program} (w : World) (src dst : TypeId) (s k : FloatKind) (b : Nat) (hs : (P.underlying src).isSome = true) (hd : P.underlying dst = some (.float k)) (hne : s ≠ k) (h : (s.decode b).isNaN = true) :
    (convert src dst (.float s b)).run P w = .ok (.float k (nanV k b w)) (w.drewN 1) := by
  obtain ⟨u, hs'⟩ := Option.isSome_iff_exists.1 hs
  cases hd2 : s.decode b with
  | nan sg f => cases u <;> simp [convert, run_underlying hs', run_underlying hd, Conv.floatToFloat, hne, hd2, choose, Sem.run, Question.forced, World.drewN, nanV]
  | infinity sg => rw [hd2] at h; cases h
  | number sg m i => rw [hd2] at h; cases h
theorem nan64_conv (b : Nat) (w : World) : (FloatKind.f64.decode (nanV .f64 b w)).isNaN = true := by
  unfold nanV
  generalize w.tape w.drawn (.nanConv .f64 b) = t
  have hb : (t / 2) % (2 ^ 52 - 1) < 2 ^ 52 - 1 := Nat.mod_lt _ (by decide)
  have e : (Question.nanConv .f64 b).cut t = (t % 2) * 2 ^ 63 + 0x7ff0000000000000 + 1 + (t / 2) % (2 ^ 52 - 1) := rfl
  rw [e]
  have h2 : t % 2 = 0 ∨ t % 2 = 1 := by omega
  generalize (t / 2) % (2 ^ 52 - 1) = q at *
  have hs : FloatKind.f64.format.signWeight = 9223372036854775808 := by decide
  unfold FloatKind.decode Ieee.Format.read
  simp only [hs, f64_binade, f64_inf]
  have hm : (t % 2 * 2 ^ 63 + 0x7ff0000000000000 + 1 + q) % 9223372036854775808 = 9218868437227405313 + q := by rcases h2 with h | h <;> rw [h] <;> omega
  rw [hm, if_neg (by omega), if_neg (by omega), if_neg (by omega)]
  rfl
theorem nan32_conv (b : Nat) (w : World) : isNaN (nanV .f32 b w) = true := by
  rw [isNaN_iff]
  unfold nanV
  generalize w.tape w.drawn (.nanConv .f32 b) = t
  have hb : (t / 2) % (2 ^ 23 - 1) < 2 ^ 23 - 1 := Nat.mod_lt _ (by decide)
  have e : (Question.nanConv .f32 b).cut t = (t % 2) * 2 ^ 31 + 0x7f800000 + 1 + (t / 2) % (2 ^ 23 - 1) := rfl
  rw [e]
  have h2 : t % 2 = 0 ∨ t % 2 = 1 := by omega
  generalize (t / 2) % (2 ^ 23 - 1) = q at *
  have hs : FloatKind.f32.format.signWeight = 2147483648 := by decide
  unfold rd Ieee.Format.read
  simp only [hs, f32_binade, f32_inf]
  have hm : (t % 2 * 2 ^ 31 + 0x7f800000 + 1 + q) % 2147483648 = 2139095041 + q := by rcases h2 with h | h <;> rw [h] <;> omega
  rw [hm, if_neg (by omega), if_neg (by omega), if_neg (by omega)]
  rfl
theorem nan64_op (x y : Nat) (w : World) (h : (FloatKind.f64.decode x).isNaN = true) : (FloatKind.f64.decode (fres .quo .f64 x y w)).isNaN = true := by
  have hn : floatBits .quo .f64 x y = none := by
    rw [bits64_quo]
    cases hx : FloatKind.f64.decode x with
    | nan s f => rfl
    | infinity s => rw [hx] at h; cases h
    | number s m i => rw [hx] at h; cases h
  unfold fres
  rw [hn]
  simp only
  generalize w.tape w.drawn (.nanBits .f64 x y) = t
  have hb : (t / 2) % (2 ^ 52 - 1) < 2 ^ 52 - 1 := Nat.mod_lt _ (by decide)
  have e : (Question.nanBits .f64 x y).cut t = (t % 2) * 2 ^ 63 + 0x7ff0000000000000 + 1 + (t / 2) % (2 ^ 52 - 1) := rfl
  rw [e]
  have h2 : t % 2 = 0 ∨ t % 2 = 1 := by omega
  generalize (t / 2) % (2 ^ 52 - 1) = q at *
  have hs : FloatKind.f64.format.signWeight = 9223372036854775808 := by decide
  unfold FloatKind.decode Ieee.Format.read
  simp only [hs, f64_binade, f64_inf]
  have hm : (t % 2 * 2 ^ 63 + 0x7ff0000000000000 + 1 + q) % 9223372036854775808 = 9218868437227405313 + q := by rcases h2 with h | h <;> rw [h] <;> omega
  rw [hm, if_neg (by omega), if_neg (by omega), if_neg (by omega)]
  rfl

set_option maxRecDepth 100000 in
theorem ref_div (a b r1 r2 r3 R : Nat) (w : World) (h1 : floatToFloatBits .f32 a .f64 = some r1) (h2 : floatToFloatBits .f32 b .f64 = some r2) (h3 : floatBits .quo .f64 r1 r2 = some r3) (h4 : floatToFloatBits .f64 r3 .f32 = some R) :
    Calls Try.prog 51 #[.float .f32 a, .float .f32 b] w fun e w' => e = .returned (.float .f32 R) ∧ w = w' := by
  have c1 := fun w => run_convert_float_float (P := Try.prog) w 29 81 .f32 .f64 a r1 (by kernel_rfl) Try.underlying81 h1
  have c2 := fun w => run_convert_float_float (P := Try.prog) w 29 81 .f32 .f64 b r2 (by kernel_rfl) Try.underlying81 h2
  have c3 := fun w => run_convert_float_float (P := Try.prog) w 81 29 .f64 .f32 r3 R (by kernel_rfl) Try.underlying29 h4
  have q1 : ∀ w, fres .quo .f64 r1 r2 w = r3 := fun w => by unfold fres; rw [h3]
  have q2 : fdr .quo .f64 r1 r2 = 0 := by unfold fdr; rw [h3]; rfl
  clear h1 h2 h3 h4
  go_enter Try.func51, Try.ntmps51
  go_wp2_with fail
  go_ret
  exact ⟨rfl, rfl⟩
set_option maxRecDepth 100000 in
theorem ref_divN (b r2 : Nat) (w : World) (h2 : floatToFloatBits .f32 b .f64 = some r2) :
    Calls Try.prog 51 #[.float .f32 theNaN, .float .f32 b] w fun e w' => (∃ v, e = .returned (.float .f32 v) ∧ isNaN v = true) ∧ Below w.heap.size w w' := by
  have c1 : ∀ w, (convert 29 81 (.float .f32 theNaN)).run Try.prog w = .ok (.float .f64 (nanV .f64 theNaN w)) (w.drewN 1) := fun w => run_convert_nan w _ _ .f32 .f64 theNaN (by kernel_rfl) Try.underlying81 (by decide) (by decide)
  have c2 := fun w => run_convert_float_float (P := Try.prog) w 29 81 .f32 .f64 b r2 (by kernel_rfl) Try.underlying81 h2
  have c3 : ∀ u v w, (convert 81 29 (.float .f64 (fres .quo .f64 (nanV .f64 theNaN u) r2 v))).run Try.prog w = .ok (.float .f32 (nanV .f32 (fres .quo .f64 (nanV .f64 theNaN u) r2 v) w)) (w.drewN 1) := fun u v w => run_convert_nan w _ _ .f64 .f32 _ (by kernel_rfl) Try.underlying29 (by decide) (nan64_op _ _ _ (nan64_conv _ _))
  clear h2
  generalize theNaN = z at *
  go_enter Try.func51, Try.ntmps51
  go_wp2_with fail
  go_ret
  exact ⟨⟨_, rfl, nan32_conv _ _⟩, below_drewN (Below.refl _ _) _⟩
set_option maxRecDepth 100000 in
theorem ref_conv (n : Int) (w : World) : Calls Try.prog 53 #[.int .i64 n] w fun e w' => e = .returned (.float .f32 (floatOfInt .f32 n)) ∧ w = w' := by
  go_enter Try.func53, Try.ntmps53
  go_wp2_with fail
  go_ret
  exact ⟨rfl, rfl⟩

/-- The quotient of a sum. -/
theorem ref_divQ (x n : Nat) (w : World) (h1 : 1 ≤ n) (h2 : n < 8388608) (hx : canon x = x) : Calls Try.prog 51 #[.float .f32 x, .float .f32 (floatOfInt .f32 (n : Int))] w fun e w' => (∃ v, e = .returned (.float .f32 v) ∧ canon v = fop .quo x (floatOfInt .f32 (n : Int))) ∧ Below w.heap.size w w' := by
  cases hn : isNaN x with
  | false =>
    obtain ⟨r1, r2, r3, g1, g2, g3, g4⟩ := mean_dbl x n h1 h2 hn
    exact (ref_div _ _ r1 r2 r3 _ w g1 g2 g3 g4).mono fun _ _ ⟨e, hw⟩ => ⟨⟨_, e, canon_fop _ _ _⟩, by rw [← hw]; exact Below.refl _ _⟩
  | true =>
    have hx2 : x = theNaN := by rw [← hx]; exact canon_of_nan hn
    subst hx2
    obtain ⟨_, r2, _, _, g2, _, _⟩ := mean_dbl 0 n h1 h2 (by decide)
    refine (ref_divN _ r2 w g2).mono fun _ _ ⟨⟨v, e, hv⟩, hw⟩ => ⟨⟨v, e, ?_⟩, hw⟩
    rw [canon_of_nan hv]
    unfold fop
    rw [floatBits_nan_left hn]
    rfl

set_option maxRecDepth 100000 in
theorem ref_mean (b n c : Nat) (xs : List Nat) (W : World) (hx : xs.length = n) (h1 : 1 ≤ n) (h2 : n ≤ c) (hn : n ≤ 1000000) (hrd : Rd W b 0 xs) :
    Calls Try.prog 34 #[.slice (some ⟨b, 0, none⟩) n c] W fun e w' => e = .returned (.float .f32 (meanV n xs)) ∧ Below W.heap.size W w' := by
  unfold meanV
  obtain ⟨s, hs⟩ : ∃ s, s = sumC n xs := ⟨_, rfl⟩
  have hsum := ref_SumOf n xs b 0 n c W hx h1 (Nat.le_refl _) h2 hn hrd
  have hcs := canon_sumC n xs
  rw [← hs] at hsum hcs ⊢
  have hdiv := fun w => ref_divQ s n w h1 (by omega) hcs
  clear hx hrd hs hcs
  generalize fop .quo s (floatOfInt .f32 (n : Int)) = q at *
  go_enter Try.func34, Try.ntmps34
  go_wp2_with fail
  refine hsum.mono ?_
  rintro e w1 ⟨rfl, hb1⟩
  go_wp2_with fail
  refine (ref_conv _ _).mono ?_
  rintro e w2 ⟨rfl, rfl⟩
  go_wp2_with fail
  refine (hdiv _).mono ?_
  rintro e w2 ⟨⟨v, rfl, hv⟩, hb2⟩
  have B := bcall hb1 hb2
  clear hb1 hb2
  go_wp2_with fail
  refine (ref_Fix _ _).mono ?_
  rintro e w3 ⟨rfl, rfl⟩
  go_wp2_with fail
  go_ret
  exact ⟨rfl, B⟩

set_option maxRecDepth 100000 in
theorem ref_inOrder (b o n c : Nat) (xs : List Nat) (W : World) (hx : xs.length = n) (h1 : 1 ≤ n) (hn : n ≤ 1000000) (hv : St.VL Wd xs) (hrd : Rd W b o xs) :
    Calls Try.prog 33 #[.slice (some ⟨b, o, none⟩) n c] W fun e w' => ∃ g cp Z, e = .returned (.slice (some ⟨g, 0, none⟩) n cp) ∧ W.heap.size ≤ g ∧ RowP w' g n Z ∧ St.Srt lessR Z ∧ St.Stb lessR Wd xs Z ∧ St.VL Wd Z ∧ Below W.heap.size W w' := by
  have hcl := sl_Clone b o c n xs W hx h1 hn hrd
  have HV := Lib.hid hv
  clear hx hrd hv
  go_enter Try.func33, Try.ntmps33
  go_wp2_with fail
  refine hcl.mono ?_
  rintro e w1 ⟨g, cp, rfl, hcp, hg, row, B⟩
  have hs := sl_SortStable g n cp _ lessR Wd cmpR lessR_ord hn xs w1 row HV.out
  have hsz := B.size
  clear row
  go_wp2_with fail
  refine hs.mono ?_
  rintro e w2 ⟨rfl, Z, row2, sZ, tZ, vZ, oth⟩
  replace B := B.trans (oth.below (by omega) hsz)
  have H := Lib.hid (And.intro row2 (And.intro sZ (And.intro tZ (And.intro vZ B))))
  clear row2 sZ tZ vZ B oth
  go_wp2_with fail
  go_ret
  exact ⟨g, cp, Z, rfl, hg, H.out.1, H.out.2.1, H.out.2.2.1, H.out.2.2.2.1, H.out.2.2.2.2⟩
end Go.Proofs.Ytlfcedecobebmaa
