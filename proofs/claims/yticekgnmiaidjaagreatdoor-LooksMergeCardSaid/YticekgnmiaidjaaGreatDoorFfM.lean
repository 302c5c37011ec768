/- dyeref1.Text, walked. -/
import Derived.Test.YticekgnmiaidjaaGreatDoorFfJ
import Derived.Laws.BytesArg
import Derived.Test.YticekgnmiaidjaaGreatDoorFlt4
import Derived.Test.YticekgnmiaidjaaGreatDoorDbQ
import Derived.Test.YticekgnmiaidjaaGreatDoorNum
namespace Go.Proofs.YticekgnmiaidjaaGreatDoor

section
open Go.RowKit Go.Lib

/-- string(bytes) of an own slice. -/
theorem conv_own {w : World} {B : Nat} {v : Value} {l : List Int} (h : w.ownsRow B 5 1 v l.length (u8s l)) : (convert 157 9 v).run Tryz.prog w = .ok (.string (strOfNums l)) w := by
  rcases h.2 with ⟨rfl, h0⟩ | ⟨g, cap, cur, rfl, _, h3, h4, h5, h6, h7⟩
  · have : l = [] := List.length_eq_zero_iff.1 h0
    subst this
    exact run_convert_bytes_nil w 157 5 Tryz.underlying157 Tryz.underlying5 0 0 9 Tryz.underlying9
  · refine run_convert_bytes_arg w 157 5 Tryz.underlying157 Tryz.underlying5 g 0 l.length cap l rfl (fun i hi => ?_) 9 Tryz.underlying9
    rw [Nat.zero_add, cell_of_row w g i cur _ (0, 0) h3]
    have hq : (u8s l)[i]? = some (.int .u8 (l.getD i 0)) := by
      unfold u8s
      rw [List.getElem?_map, List.getD_eq_getElem?_getD, List.getElem?_eq_getElem hi]
      rfl
    rw [← h7, List.getElem?_take] at hq
    split at hq
    · rw [Array.getElem?_toList] at hq; exact hq
    · cases hq
theorem run_make24 (w : World) : (Instr.makeSlice 157 (.int .i64 0) (.int .i64 24)).run Tryz.prog w = .ok (.slice (some ⟨w.heap.size, 0, none⟩) 0 24) (w.alloc (.cells (madeCells #[.int .u8 0] 24) 5)) := by
  obtain ⟨i0, hi, hz0, hz1, hz2⟩ := info_parts infoY
  have := run_make (P := Tryz.prog) w 157 5 i0 (.int .u8 0) Tryz.underlying157 hi hz0 .i64 .i64 0 24 (by omega) (by omega) (by rw [hz2]; omega) (by omega)
  rw [this, hz1]
  simp [Value.cells]
theorem stb_new (W : World) (E : EnvF W) : ∃ g T cs, StB W.heap.size (W.alloc (.cells (madeCells #[.int .u8 0] 24) 5)) g T cs (W.alloc (.cells (madeCells #[.int .u8 0] 24) 5)) (.slice (some ⟨W.heap.size, 0, none⟩) 0 24) [] := by
  obtain ⟨T, cs, hb⟩ := Bk.of_cell (E.tab 0 (by decide)).1
  refine ⟨_, T, cs, ⟨⟨rfl, .inr ⟨W.heap.size, 24, _, rfl, Nat.le_refl _, heap_alloc_new W _, by decide, by decide, ?_, rfl⟩⟩, Below.refl _ _, hb.keep (bnew (Below.refl _ _)), .inr hb.lt, by simp⟩⟩
  rw [size_madeCells]
set_option maxRecDepth 100000 in
set_option maxHeartbeats 4000000 in
theorem sc_fmtFloat (x y : Nat) (hx : x < 4294967296) (hf : exN x < 255) (hd : floatToFloatBits .f64 y .f32 = some x) (W : World) (E : EnvF W) :
    Calls Tryz.prog 154 #[.float .f64 y, .int .u8 103, .int .i64 (-1), .int .i64 32] W fun e w' => e = .returned (.string (strOfNums (ftoaT x))) ∧ Below W.heap.size W w' := by
  have c1 := fun w => run_convert_float_float (P := Tryz.prog) w 153 23 .f64 .f32 y x (by kernel_rfl) Tryz.underlying23 hd
  have c2 := fun w => run_make24 w
  have i1 : imax 3 24 = 24 := by decide
  obtain ⟨g, T, cs, st⟩ := stb_new W E
  have KF := Lib.hid (sc_ftoa32 x hx hf W.heap.size g T cs _ _ st (E.below (bnew (Below.refl _ _))))
  clear st
  go_enter Tryz.func154, Tryz.ntmps154
  go_wp2_with fail
  refine KF.out.mono ?_
  rintro e w2 ⟨v2, rfl, own2, b2⟩
  have c3 := conv_own own2
  have HB := Lib.hid ((bnew (Below.refl W.heap.size W)).trans b2)
  clear KF own2 b2 c1 c2
  go_wp2_with fail
  go_ret
  exact ⟨rfl, HB.out⟩
set_option maxRecDepth 100000 in
theorem sc_FormatFloat (x y : Nat) (hx : x < 4294967296) (hf : exN x < 255) (hd : floatToFloatBits .f64 y .f32 = some x) (W : World) (E : EnvF W) :
    Calls Tryz.prog 114 #[.float .f64 y, .int .u8 103, .int .i64 (-1), .int .i64 32] W fun e w' => e = .returned (.string (strOfNums (ftoaT x))) ∧ Below W.heap.size W w' := by
  have KF := Lib.hid (sc_fmtFloat x y hx hf hd W E)
  go_enter Tryz.func114, Tryz.ntmps114
  go_wp2_with fail
  refine KF.out.mono ?_
  rintro e w2 ⟨rfl, b2⟩
  have HB := Lib.hid b2
  clear b2
  go_wp2_with fail
  go_ret
  exact ⟨rfl, HB.out⟩
end

section
open Go.RowKit Go.Lib Ieee

theorem word_of {x q : Nat} (hx : x < 4294967296) (hq : q = x % 2147483648) : FloatKind.f32.format.word (x / 2147483648 % 2 == 1) q = x := by
  unfold Format.word
  have hw : FloatKind.f32.format.signWeight = 2147483648 := by decide
  rw [hw]
  by_cases h : x / 2147483648 % 2 = 1
  · rw [if_pos (by simpa using h)]; omega
  · rw [if_neg (by simpa using h)]; omega
/-- A single that is a number is the single nearest to what it stands for. -/
theorem self_nearest {x : Nat} (hx : x < 4294967296) (hf : exN x < 255) : ∃ s m i, rd x = .number s m i ∧ FloatKind.f32.format.nearest s m i = x := by
  obtain ⟨q, hq⟩ : ∃ q, q = x % 2147483648 := ⟨_, rfl⟩
  have hql : q < 2139095040 := by unfold exN at hf; omega
  have h1 : FloatKind.f32.format.binade = 8388608 := by decide
  have h2 : FloatKind.f32.format.infRung = 2139095040 := by decide
  have h3 : FloatKind.f32.format.leastPlace = -149 := by decide
  have h4 : FloatKind.f32.format.signWeight = 2147483648 := by decide
  have h5 : FloatKind.f32.format.fractionBits = 23 := rfl
  have hw := word_of hx hq
  obtain ⟨s, hs⟩ : ∃ s, (x / 2147483648 % 2 == 1) = s := ⟨_, rfl⟩
  rw [hs] at hw
  have hrd : rd x = if q < 8388608 then .number s q (-149) else .number s (8388608 + q % 8388608) (-149 + ((q / 8388608 - 1 : Nat) : Int)) := by
    unfold rd Format.read
    simp only [h1, h2, h3, h4, ← hq, hs]
    split <;> first | rfl | (rw [if_pos hql])
  by_cases hlt : q < 8388608
  · rw [if_pos hlt] at hrd
    refine ⟨_, _, _, hrd, ?_⟩
    by_cases h0 : q = 0
    · rw [h0] at hw ⊢
      unfold Format.nearest
      rw [if_pos rfl]; exact hw
    · have hl : q.log2 ≤ 22 := log2_le (by omega)
      rw [nearest_up _ s (-149) (-149) h0 (by rw [h5, h3]; omega) (by omega), h1, h2, h3]
      rw [show ((-149 : Int) - -149).toNat = 0 from rfl, Nat.zero_mul, Nat.zero_add, Nat.pow_zero, Nat.mul_one, Nat.min_eq_left (by omega)]
      exact hw
  · rw [if_neg hlt] at hrd
    refine ⟨_, _, _, hrd, ?_⟩
    have hl : (8388608 + q % 8388608).log2 = 23 := log2_is (by omega) (by omega)
    rw [nearest_up _ s _ (-149 + ((q / 8388608 - 1 : Nat) : Int)) (by omega) (by rw [h5, h3, hl]; omega) (by omega), h1, h2, h3]
    rw [show ((-149 : Int) + ((q / 8388608 - 1 : Nat) : Int) - -149).toNat = q / 8388608 - 1 by omega, Int.sub_self, Int.toNat_zero, Nat.pow_zero, Nat.mul_one, Nat.min_eq_left (by omega)]
    rw [show (q / 8388608 - 1) * 8388608 + (8388608 + q % 8388608) = q by omega]
    exact hw
/-- Widened and made a single again. -/
theorem wide_back {x : Nat} (hx : x < 4294967296) (hf : exN x < 255) : ∃ y, floatToFloatBits .f32 x .f64 = some y ∧ floatToFloatBits .f64 y .f32 = some x := by
  obtain ⟨s, m, i, hr, hn⟩ := self_nearest hx hf
  obtain ⟨y, k, l, h1, h2, h3, h4, h5⟩ := widen x s m i hr
  refine ⟨y, h1, ?_⟩
  have e : FloatKind.f32.format.nearest s k l = x := by
    rw [h5]
    have := nearest_scale FloatKind.f32.format s m (i - l).toNat i
    rw [show i - ((i - l).toNat : Int) = l by omega] at this
    rw [this, hn]
  have := narrow_fin (x := y) (s := s) (k := k) (l := l) h2 ⟨s, m, i, by rw [e]; exact hr⟩
  rw [this, e]
/-- The text of a single. -/
def textF (x : Nat) : ByteArray :=
  match rd x with
  | .nan _ _ => ⟨#[110, 97, 110]⟩
  | .infinity false => ⟨#[105, 110, 102]⟩
  | .infinity true => ⟨#[45, 105, 110, 102]⟩
  | .number _ _ _ => strOfNums (ftoaT x)
end

section
open Go.RowKit Go.Lib Ieee

theorem num_exN {x : Nat} {s : Bool} {m : Nat} {i : Int} (h : rd x = .number s m i) : exN x < 255 := by
  have h1 : FloatKind.f32.format.binade = 8388608 := by decide
  have h2 : FloatKind.f32.format.infRung = 2139095040 := by decide
  have h4 : FloatKind.f32.format.signWeight = 2147483648 := by decide
  unfold rd Format.read at h
  simp only [h1, h2, h4] at h
  unfold exN
  split at h
  · omega
  · split at h
    · omega
    · split at h <;> cases h
set_option maxRecDepth 100000 in
set_option maxHeartbeats 4000000 in
theorem ref_Text (x : Nat) (hx : x < 4294967296) (W : World) (E : EnvF W) :
    Calls Tryz.prog 76 #[.float .f32 x] W fun e w' => e = .returned (.string (textF x)) ∧ Below W.heap.size W w' := by
  have HE := Lib.hid E
  clear E
  have hz : rd 0 = .number false 0 (-149) := by decide
  cases hr : rd x with
  | nan a b =>
    have h1 : (FloatKind.f32.format.order x x != some .eq) = true := by
      show ((rd x).order (rd x) != some .eq) = true
      rw [hr]; rfl
    have ht : textF x = ⟨#[110, 97, 110]⟩ := by unfold textF; rw [hr]
    rw [ht]
    clear hr ht
    go_enter Tryz.func76, Tryz.ntmps76
    go_wp2_with fail
    go_ret
    exact ⟨rfl, Below.refl _ _⟩
  | infinity s =>
    have h1 : (FloatKind.f32.format.order x x != some .eq) = false := by
      show ((rd x).order (rd x) != some .eq) = false
      rw [hr]; cases s <;> rfl
    have h2 : (FloatKind.f32.format.order x 0 == some .gt) = !s := by
      show ((rd x).order (rd 0) == some .gt) = !s
      rw [hr, hz]; cases s <;> rfl
    have h3 : (FloatKind.f32.format.order x 0 == some .lt) = s := by
      show ((rd x).order (rd 0) == some .lt) = s
      rw [hr, hz]; cases s <;> rfl
    have hn : isNum x = false := by unfold isNum; rw [hr]
    have KN := Lib.hid (fun w => hn ▸ ref_IsNumber x w)
    cases s
    case false =>
      have ht : textF x = ⟨#[105, 110, 102]⟩ := by unfold textF; rw [hr]
      rw [ht]
      clear hr ht hn
      go_enter Tryz.func76, Tryz.ntmps76
      go_wp2_with fail
      refine (KN.out _).mono ?_
      rintro e w1 ⟨rfl, b1⟩
      have HB := Lib.hid b1
      clear b1
      go_wp2_with fail
      go_ret
      exact ⟨rfl, HB.out⟩
    case true =>
      have ht : textF x = ⟨#[45, 105, 110, 102]⟩ := by unfold textF; rw [hr]
      rw [ht]
      clear hr ht hn
      go_enter Tryz.func76, Tryz.ntmps76
      go_wp2_with fail
      refine (KN.out _).mono ?_
      rintro e w1 ⟨rfl, b1⟩
      have HB := Lib.hid b1
      clear b1
      go_wp2_with fail
      go_ret
      exact ⟨rfl, HB.out⟩
  | number s m i =>
    have hf := num_exN hr
    obtain ⟨y, hy1, hy2⟩ := wide_back hx hf
    have h1 : (FloatKind.f32.format.order x x != some .eq) = false := by
      show ((rd x).order (rd x) != some .eq) = false
      rw [hr]; simp [Datum.order]
    have hn : isNum x = true := by unfold isNum; rw [hr]
    have KN := Lib.hid (fun w => hn ▸ ref_IsNumber x w)
    have KF := Lib.hid (fun w (h : EnvF w) => sc_FormatFloat x y hx hf hy2 w h)
    have c1 := fun w => run_convert_float_float (P := Tryz.prog) w 23 153 .f32 .f64 x y (by kernel_rfl) Tryz.underlying153 hy1
    have ht : textF x = strOfNums (ftoaT x) := by unfold textF; rw [hr]
    rw [ht]
    clear hr ht hn hf hy1 hy2
    cases h2 : (FloatKind.f32.format.order x 0 == some .gt) <;> cases h3 : (FloatKind.f32.format.order x 0 == some .lt)
    all_goals
      go_enter Tryz.func76, Tryz.ntmps76
      go_wp2_with fail
    · refine (KF.out _ HE.out).mono ?_
      rintro e w1 ⟨rfl, b1⟩
      have HB := Lib.hid b1
      clear b1
      go_wp2_with fail
      go_ret
      exact ⟨rfl, HB.out⟩
    · refine (KN.out _).mono ?_
      rintro e w1 ⟨rfl, b1⟩
      have HB := Lib.hid b1
      clear b1
      go_wp2_with fail
      refine (KF.out _ (HE.out.below HB.out)).mono ?_
      rintro e w2 ⟨rfl, b2⟩
      have HC := Lib.hid (HB.out.trans (b2.mono HB.out.size))
      clear b2
      go_wp2_with fail
      go_ret
      exact ⟨rfl, HC.out⟩
    · refine (KN.out _).mono ?_
      rintro e w1 ⟨rfl, b1⟩
      have HB := Lib.hid b1
      clear b1
      go_wp2_with fail
      refine (KF.out _ (HE.out.below HB.out)).mono ?_
      rintro e w2 ⟨rfl, b2⟩
      have HC := Lib.hid (HB.out.trans (b2.mono HB.out.size))
      clear b2
      go_wp2_with fail
      go_ret
      exact ⟨rfl, HC.out⟩
    · refine (KN.out _).mono ?_
      rintro e w1 ⟨rfl, b1⟩
      have HB := Lib.hid b1
      clear b1
      go_wp2_with fail
      refine (KN.out _).mono ?_
      rintro e w2 ⟨rfl, b2⟩
      have HC := Lib.hid (HB.out.trans (b2.mono HB.out.size))
      clear b2
      go_wp2_with fail
      refine (KF.out _ (HE.out.below HC.out)).mono ?_
      rintro e w3 ⟨rfl, b3⟩
      have HD := Lib.hid (HC.out.trans (b3.mono HC.out.size))
      clear b3
      go_wp2_with fail
      go_ret
      exact ⟨rfl, HD.out⟩
end
end Go.Proofs.YticekgnmiaidjaaGreatDoor
