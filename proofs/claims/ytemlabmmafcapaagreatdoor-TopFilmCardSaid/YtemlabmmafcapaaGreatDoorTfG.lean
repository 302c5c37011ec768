/- The law's plain parts: a list does not differ from itself; slipping and back; conform.At in one form. -/
import Derived.Test.YtemlabmmafcapaaGreatDoorTfF
import Derived.Test.YtemlabmmafcapaaGreatDoorDaP
import Derived.Test.YtemlabmmafcapaaGreatDoorDaE
import Derived.Test.YtemlabmmafcapaaGreatDoorDaW
import Derived.Test.YtemlabmmafcapaaGreatDoorTrs
namespace Go.Proofs.YtemlabmmafcapaaGreatDoor
open Go.RowKit Ieee

theorem film_landed (w : World) : Calls Tryz.prog 4 #[] w fun e w' => e = .returned (.bool true) ∧ w = w' := by
  go_enter Tryz.func4, Tryz.ntmps4
  go_wp2_with (go_at_call 10; refine (num_Bits _ _).mono ?_; rintro e w' ⟨rfl, rfl⟩)
  go_ret
  exact ⟨ret_bool (by decide), rfl⟩
theorem alike_self (es : List Ev) (f : Int) : alike2 es es f = true := by
  unfold alike2
  cases atK es f with
  | none => rfl
  | some k => simp
theorem rngs_self (es : List Ev) (M : List Int) : ∀ n, rngs M (alike2 es es) n = []
  | 0 => rfl
  | n + 1 => by rw [rngs, rngs_self es M n, alike_self]; rfl
theorem cmpP_self (es : List Ev) : cmpP es es = [] := rngs_self es _ _
theorem ed_of {t : ByteArray} {r : Int} {es b : List Ev} (h : editsErr t r es = 0) (hl : b.length = es.length) : editsErr t r b = evsTo b b.length := by
  obtain ⟨h1, h2, h3, _⟩ := edits_ok h
  unfold editsErr
  rw [if_neg (by rw [h1]; simp), if_neg (by rw [h2]; simp), if_neg (by omega)]
theorem far_slip {t : ByteArray} {r : Int} {es : List Ev} {j : Nat} (q : Int) (h : editsErr t r es = 0) (hj : j < es.length) (hq : q < -16777216 ∨ 16777216 < q) : editsErr t r (slipL es j q) = 3 := by
  have hl : (slipL es j q).length = es.length := by rw [slipL, List.length_set]
  rw [ed_of h hl]
  obtain ⟨a, b, c, _, _⟩ := edits_in h j hj
  have e1 : (slipL es j q).getD j default = { es.getD j default with inn := (es.getD j default).inn + q, out := (es.getD j default).out + q } := by simp [slipL, List.getD, hj]
  refine far_err es _ j hj hl (edits_ok h).2.2.2 (fun i hi => ?_) (by rw [e1]) (by rw [e1]) ?_
  · simp [slipL, List.getD, List.getElem?_set_ne (show j ≠ i by omega)]
  · rw [e1]; simp only []; omega
theorem slip_same (es : List Ev) (j : Nat) (q : Int) : (slipL es j q).length = es.length := by rw [slipL, List.length_set]
theorem turn_zero {t : ByteArray} {r : Int} {es : List Ev} {event b : Int} {F : List Ev → Nat → Int → List Ev} (hfar : ∀ (j : Nat) (q : Int), editsErr t r es = 0 → j < es.length → (q < -16777216 ∨ 16777216 < q) → editsErr t r (F es j q) = 3)
    (h : turnErr t r es event (F es event.toNat (clampB 1073741824 b)) = 0) : editsErr t r es = 0 ∧ 0 ≤ event ∧ event < es.length ∧ -16777216 ≤ b ∧ b ≤ 16777216 ∧ editsErr t r (F es event.toNat b) = 0 := by
  unfold turnErr at h
  split at h
  · contradiction
  have h0 : editsErr t r es = 0 := by simpa using ‹¬editsErr t r es ≠ 0›
  split at h
  · cases h
  have hb : -16777216 ≤ clampB 1073741824 b ∧ clampB 1073741824 b ≤ 16777216 := by
    by_cases hb : clampB 1073741824 b < -16777216 ∨ 16777216 < clampB 1073741824 b
    · rw [hfar _ _ h0 (by omega) hb] at h; cases h
    · omega
  have hid : clampB 1073741824 b = b := by
    revert hb; unfold clampB imin imax; split <;> split <;> omega
  rw [hid] at h hb
  exact ⟨h0, by omega, by omega, hb.1, hb.2, h⟩

theorem word_self {h : Nat} {m : Nat} {i : Int} (hr : rd h = .number false m i) : (FloatKind.f32.format.order h h == some .eq) = true := by
  show ((rd h).order (rd h) == some .eq) = true
  rw [hr]
  have e : ∀ x : Int, compare x x = .eq := fun x => by
    cases hc : compare x x with
    | eq => rfl
    | lt => have := Int.compare_eq_lt.1 hc; omega
    | gt => have := Int.compare_eq_gt.1 hc; omega
  simp only [Datum.order]
  rw [e]
  rfl
/-- What conform.At gives. -/
def atP (er : Int) (es : List Ev) (f : Int) : Value := if er ≠ 0 then .tuple #[.agg #[.int .i64 0, .string ⟨#[]⟩, .int .i64 0, .string ⟨#[]⟩, .int .i64 0, .float .f32 0], .int .i64 er] else if f < 0 then .tuple #[.agg #[.int .i64 0, .string ⟨#[]⟩, .int .i64 0, .string ⟨#[]⟩, .int .i64 0, .float .f32 0], .int .i64 3] else atR es f
theorem atR_lit (es : List Ev) (f : Int) : ∃ (a b d er : Int) (r s : ByteArray) (h : Nat), atR es f = .tuple #[.agg #[.int .i64 a, .string r, .int .i64 b, .string s, .int .i64 d, .float .f32 h], .int .i64 er] := by
  unfold atR
  split
  · exact ⟨_, _, _, _, _, _, _, rfl⟩
  · exact ⟨_, _, _, _, _, _, _, rfl⟩
set_option maxRecDepth 100000 in
set_option maxHeartbeats 4000000 in
theorem conform_At (title : ByteArray) (rate : Int) (v : Value) (es : List Ev) (f : Int) (W : World) (hs : SlE W v es) :
    Calls Tryz.prog 7 #[.agg #[.string title, .int .i64 rate, v], .int .i64 f] W fun e w' => e = .returned (atP (editsErr title rate es) es f) ∧ Below W.heap.size W w' := by
  have Hck := Lib.hid (fun (u : World) (hu : Below W.heap.size W u) => conform_CheckList title rate v es u (hs.keep hu))
  have hok : editsErr title rate es = 0 → evsTo es es.length = 0 := fun h => (errs_zero h).1
  obtain ⟨er, her⟩ : ∃ er, er = editsErr title rate es := ⟨_, rfl⟩
  rw [← her] at Hck hok ⊢
  have Hat := Lib.hid (fun (h : er = 0) (u : World) (hu : Below W.heap.size W u) => conform_at title rate v es f u (hs.keep hu) (hok h))
  obtain ⟨a, c, rfl, _, _⟩ := hs
  generalize es.length = n at *
  clear hok her
  go_enter Tryz.func7, Tryz.ntmps7
  go_upto_region 1 with fail
  refine name_world ?_
  intro w0 hw0
  have x2 : Bx w0 W.heap.size 24 #[.string title, .int .i64 rate, .slice a n c] := by rw [hw0]; exact (Bx.new _ _ _).alloc _
  have x4 : Bx w0 (W.heap.size + 1) 33 #[.int .i64 0, .string ⟨#[]⟩, .int .i64 0, .string ⟨#[]⟩, .int .i64 0, .float .f32 0] := by rw [hw0]; exact Bx.at _ (by simp)
  have B : Below W.heap.size W w0 := by rw [hw0]; exact bnew (bnew (Below.refl _ W))
  clear hw0
  obtain ⟨q2, f2, l2⟩ := x2.all
  go_wp2_with fail
  refine (Hck.out w0 B).mono ?_
  rintro e w1 ⟨rfl, hb1⟩
  replace x2 := x2.keep hb1
  replace x4 := x4.keep hb1
  replace B := bcall B hb1
  clear hb1 q2 f2 l2
  by_cases h0 : er = 0
  · have hat := Hat.out h0
    subst h0
    by_cases hf : f < 0
    · have ha : atP 0 es f = .tuple #[.agg #[.int .i64 0, .string ⟨#[]⟩, .int .i64 0, .string ⟨#[]⟩, .int .i64 0, .float .f32 0], .int .i64 3] := by unfold atP; rw [if_neg (by simp), if_pos hf]
      have HA := Lib.hid ha
      clear ha hat
      obtain ⟨q4, f4, l4⟩ := x4.all
      clear x2 x4
      go_wp2_with fail
      refine bodyPost_ret (v := .tuple #[.agg #[.int .i64 0, .string ⟨#[]⟩, .int .i64 0, .string ⟨#[]⟩, .int .i64 0, .float .f32 0], .int .i64 3]) (by simp [results, Tryz.results7, go_sem, q4]) rfl ⟨by rw [HA.out], ?_⟩
      repeat (refine bput (by omega) ?_)
      exact B
    · have ha : atP 0 es f = atR es f := by unfold atP; rw [if_neg (by simp), if_neg hf]
      obtain ⟨z1, z2, z3, z4, z5, z6, z7, hz⟩ := atR_lit es f
      rw [hz] at hat ha
      have HA := Lib.hid ha
      clear ha hz
      obtain ⟨q2, f2, l2⟩ := x2.all
      go_wp2_with fail
      refine (hat w1 B).mono ?_
      rintro e w2 ⟨rfl, hb2⟩
      replace x4 := x4.keep hb2
      replace B := bcall B hb2
      clear hb2 q2 f2 l2 x2 hat
      obtain ⟨q4, f4, l4⟩ := x4.all
      clear x4
      go_wp2_with fail
      refine bodyPost_ret (v := .tuple #[.agg #[.int .i64 z1, .string z5, .int .i64 z2, .string z6, .int .i64 z3, .float .f32 z7], .int .i64 z4]) (by simp [results, Tryz.results7, go_sem, q4]) rfl ⟨by rw [HA.out], ?_⟩
      repeat (refine bput (by omega) ?_)
      exact B
  · have ha : atP er es f = .tuple #[.agg #[.int .i64 0, .string ⟨#[]⟩, .int .i64 0, .string ⟨#[]⟩, .int .i64 0, .float .f32 0], .int .i64 er] := by unfold atP; rw [if_pos h0]
    have HA := Lib.hid ha
    have hne : (er != 0) = true := bne_iff_ne.2 h0
    clear ha Hat h0
    obtain ⟨q4, f4, l4⟩ := x4.all
    clear x2 x4
    go_wp2_with fail
    refine bodyPost_ret (v := .tuple #[.agg #[.int .i64 0, .string ⟨#[]⟩, .int .i64 0, .string ⟨#[]⟩, .int .i64 0, .float .f32 0], .int .i64 er]) (by simp [results, Tryz.results7, go_sem, q4]) rfl ⟨by rw [HA.out], ?_⟩
    repeat (refine bput (by omega) ?_)
    exact B

/-- What conform.At gives of a right list. -/
theorem at_form (title : ByteArray) (rate : Int) (es : List Ev) (f : Int) (her : editsErr title rate es = 0) : ∃ (e : Int) (r : ByteArray) (x : Int) (s : ByteArray) (g : Int) (q : Nat) (er : Int),
    (∀ v W, SlE W v es → Calls Tryz.prog 7 #[.agg #[.string title, .int .i64 rate, v], .int .i64 f] W fun y w' => y = .returned (.tuple #[.agg #[.int .i64 e, .string r, .int .i64 x, .string s, .int .i64 g, .float .f32 q], .int .i64 er]) ∧ Below W.heap.size W w') ∧
    (∀ w, (Op.equalIn 10000 33 (.agg #[.int .i64 e, .string r, .int .i64 x, .string s, .int .i64 g, .float .f32 q]) (.agg #[.int .i64 e, .string r, .int .i64 x, .string s, .int .i64 g, .float .f32 q])).run Tryz.prog w = .ok true w) := by
  obtain ⟨_, _, _, hok⟩ := list_ok her
  have hA := fun v W hs => conform_At title rate v es f W hs
  rw [her] at hA
  have eqs : ∀ (e x g : Int) (r s : ByteArray) (q : Nat), (FloatKind.f32.format.order q q == some .eq) = true → ∀ w, (Op.equalIn 10000 33 (.agg #[.int .i64 e, .string r, .int .i64 x, .string s, .int .i64 g, .float .f32 q]) (.agg #[.int .i64 e, .string r, .int .i64 x, .string s, .int .i64 g, .float .f32 q])).run Tryz.prog w = .ok true w := by
    intro e x g r s q hq w
    rw [run_eq_shot, hq]
    simp
  have z0 : (FloatKind.f32.format.order 0 0 == some .eq) = true := word_self (show rd 0 = .number false 0 (-149) by decide)
  by_cases hf : f < 0
  · have hv : atP 0 es f = .tuple #[.agg #[.int .i64 0, .string ⟨#[]⟩, .int .i64 0, .string ⟨#[]⟩, .int .i64 0, .float .f32 0], .int .i64 3] := by
      unfold atP
      rw [if_neg (by simp), if_pos hf]
    simp only [hv] at hA
    exact ⟨0, ⟨#[]⟩, 0, ⟨#[]⟩, 0, 0, 3, hA, eqs _ _ _ _ _ _ z0⟩
  · have hv : atP 0 es f = atR es f := by
      unfold atP
      rw [if_neg (by simp), if_neg hf]
    simp only [hv] at hA
    unfold atR at hA
    cases hk : atK es f with
    | none =>
      simp only [hk] at hA
      exact ⟨0, ⟨#[]⟩, 0, ⟨#[]⟩, 0, 0, 11, hA, eqs _ _ _ _ _ _ z0⟩
    | some k =>
      simp only [hk, shA] at hA
      obtain ⟨_, m, i, hw⟩ := sh_word hok hk
      exact ⟨k, _, _, _, _, _, 0, hA, eqs _ _ _ _ _ _ (word_self hw)⟩
end Go.Proofs.YtemlabmmafcapaaGreatDoor
