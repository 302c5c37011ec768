/- What At and Sources give, in one form each. -/
import Derived.Test.YteebkfdocdmboaaDoorEmC
import Derived.Test.YteebkfdocdmboaaDoorEmE
import Derived.Test.YteebkfdocdmboaaDoorEmQ
import Derived.Test.YteebkfdocdmboaaDoorEmA
import Derived.Test.YteebkfdocdmboaaDoorChk
import Derived.Test.YteebkfdocdmboaaDoorDaR
import Derived.Test.YteebkfdocdmboaaDoorEmH
import Derived.Test.YteebkfdocdmboaaDoorEmS
import Derived.Test.YteebkfdocdmboaaDoorDaE
namespace Go.Proofs.YteebkfdocdmboaaDoor
open Go.RowKit Ieee

set_option maxRecDepth 100000 in
set_option maxHeartbeats 4000000 in
theorem conform_Sources_bad (title : ByteArray) (rate : Int) (v : Value) (es : List Ev) (h : Int) (W : World) (hs : SlE W v es) (hh : editsErr title rate es = 0 → h < 0 ∨ 1000 < h) :
    Calls Tryd.prog 7 #[.agg #[.string title, .int .i64 rate, v], .int .i64 h] W fun e w' => e = .returned (.tuple #[.slice none 0 0, .int .i64 (if editsErr title rate es = 0 then 3 else editsErr title rate es)]) ∧ Below W.heap.size W w' := by
  have Hck := Lib.hid (fun (u : World) (hu : Below W.heap.size W u) => conform_CheckList title rate v es u (hs.keep hu))
  obtain ⟨a, c, rfl, _, _⟩ := hs
  generalize editsErr title rate es = er at *
  generalize es.length = n at *
  by_cases he : er = 0
  · subst he
    rw [if_pos rfl]
    replace hh := hh rfl
    by_cases h0 : h < 0
    all_goals
      first | (have h2 : 1000 < h := by omega) | skip
      clear hh
      go_enter Tryd.func7, Tryd.ntmps7
      go_upto_region 1 with fail
      refine name_world ?_
      intro w0 hw0
      have x2 : Bx w0 W.heap.size 24 #[.string title, .int .i64 rate, .slice a n c] := by rw [hw0]; exact Bx.new _ _ _
      have B0 : Below W.heap.size W w0 := by rw [hw0]; exact bnew (Below.refl _ W)
      clear hw0
      obtain ⟨q2, f2, l2⟩ := x2.all
      go_wp2_with fail
      refine (Hck.out w0 B0).mono ?_
      rintro e w1 ⟨rfl, hb1⟩
      have B1 := bcall B0 hb1
      go_wp2_with fail
      go_ret2
      exact ⟨rfl, B1⟩
  · rw [if_neg he]
    clear hh
    have he2 : (er != 0) = true := by simpa using he
    go_enter Tryd.func7, Tryd.ntmps7
    go_upto_region 1 with fail
    refine name_world ?_
    intro w0 hw0
    have x2 : Bx w0 W.heap.size 24 #[.string title, .int .i64 rate, .slice a n c] := by rw [hw0]; exact Bx.new _ _ _
    have B0 : Below W.heap.size W w0 := by rw [hw0]; exact bnew (Below.refl _ W)
    clear hw0
    obtain ⟨q2, f2, l2⟩ := x2.all
    go_wp2_with fail
    refine (Hck.out w0 B0).mono ?_
    rintro e w1 ⟨rfl, hb1⟩
    have B1 := bcall B0 hb1
    go_wp2_with fail
    go_ret2
    exact ⟨rfl, B1⟩

set_option maxRecDepth 100000 in
set_option maxHeartbeats 4000000 in
theorem ref_At_neg (title : ByteArray) (rate : Int) (v : Value) (es : List Ev) (f : Int) (W : World) (hs : SlE W v es) (hf : f < 0) :
    Calls Tryd.prog 9 #[.agg #[.string title, .int .i64 rate, v], .int .i64 f] W fun e w' => e = .returned (.tuple #[.agg #[.int .i64 0, .string ⟨#[]⟩, .int .i64 0, .string ⟨#[]⟩, .int .i64 0, .float .f32 0], .int .i64 3]) ∧ Below W.heap.size W w' := by
  obtain ⟨a, c, rfl, _, _⟩ := hs
  generalize es.length = n
  go_enter Tryd.func9, Tryd.ntmps9
  go_upto_region 1 with fail
  refine name_world ?_
  intro w0 hw0
  have x1 : Bx w0 W.heap.size 24 #[.string title, .int .i64 rate, .slice a n c] := by rw [hw0]; exact (Bx.new _ _ _).alloc _
  have x2 : Bx w0 (W.heap.size + 1) 30 #[.int .i64 0, .string ⟨#[]⟩, .int .i64 0, .string ⟨#[]⟩, .int .i64 0, .float .f32 0] := by rw [hw0]; exact Bx.at _ (by simp)
  have B : Below W.heap.size W w0 := by rw [hw0]; exact bnew (bnew (Below.refl _ W))
  clear hw0
  obtain ⟨q2, f2, l2⟩ := x2.all
  have hlt : W.heap.size ≤ W.heap.size + 1 := by omega
  go_wp2_with fail
  exact bodyPost_ret (v := .tuple #[.agg #[.int .i64 0, .string ⟨#[]⟩, .int .i64 0, .string ⟨#[]⟩, .int .i64 0, .float .f32 0], .int .i64 3]) (by simp [results, Tryd.results9, go_sem, q2]) rfl ⟨rfl, bput (by omega) (bput (by omega) (bput (by omega) (bput (by omega) (bput (by omega) (bput (by omega) B)))))⟩

theorem nm_call {P : Program} {f : FuncId} {args : Array Value} {w0 : World} {Q : Ending → World → Prop} (h : ∀ wb, wb = w0 → Calls P f args wb Q) : Calls P f args w0 Q := h _ rfl
theorem below_eq {w w0 : World} {ob : Obj} (h : w = w0.alloc ob) : Below w0.heap.size w0 w := by rw [h]; exact bnew (Below.refl _ _)
theorem word_self {h : Nat} {m : Nat} {i : Int} (hr : rd h = .number false m i) : (FloatKind.f32.format.order h h == some .eq) = true := by
  show ((rd h).order (rd h) == some .eq) = true
  rw [hr]
  have e : ∀ x : Int, compare x x = .eq := fun x => by
    cases hc : compare x x with
    | eq => rfl
    | lt => have := Int.compare_eq_lt.1 hc; omega
    | gt => have := Int.compare_eq_gt.1 hc; omega
  simp only [Datum.order]
  rw [e]
  rfl
theorem share_num {es : List Ev} (hok : evsTo es es.length = 0) {f : Int} {k : Nat} (hk : atK es f = some k) : (FloatKind.f32.format.order (shOf es f k).share (shOf es f k).share == some .eq) = true := by
  have hk' := hk
  unfold atK at hk'
  rw [List.find?_range_eq_some] at hk'
  obtain ⟨hh, hkl, _⟩ := hk'
  have hkl := List.mem_range.1 hkl
  unfold hit at hh
  simp only [Bool.and_eq_true, decide_eq_true_eq] at hh
  obtain ⟨b1, b2, b3, b4, b5, b6, b7⟩ := ev_bd hok hkl
  unfold shOf
  simp only
  split
  · rename_i hd
    unfold shareB
    obtain ⟨a, ha⟩ : ∃ a : Nat, f - (es.getD k default).pos + 1 = (a : Int) := ⟨(f - (es.getD k default).pos + 1).toNat, by omega⟩
    obtain ⟨b, hb⟩ : ∃ b : Nat, (es.getD k default).len + 1 = (b : Int) := ⟨((es.getD k default).len + 1).toNat, by omega⟩
    rw [ha, hb]
    obtain ⟨h1, m, i, h2, h3⟩ := share_word (a := a) (b := b) (by omega) (by omega) (by omega)
    exact word_self h2
  · exact word_self (show rd 1065353216 = .number false 8388608 (-23) by decide)

/-- What both Sources give, whatever the handle. -/
def SrcIs (es : List Ev) (h : Int) (L : List Pl) : Prop := if h < 0 ∨ 1000 < h then L = [] else IsSrc es h L
theorem SrcIs.same {es : List Ev} {h : Int} {L K : List Pl} (h1 : SrcIs es h L) (h2 : SrcIs es h K) : L = K := by
  unfold SrcIs at h1 h2
  split at h1
  · rename_i c
    rw [if_pos c] at h2
    rw [h1, h2]
  · rename_i c
    rw [if_neg c] at h2
    exact h1.same h2
theorem SrcIs.len {es : List Ev} {h : Int} {L : List Pl} (h1 : SrcIs es h L) (hl : es.length ≤ 500) : L.length ≤ 1000000 := by
  unfold SrcIs at h1
  split at h1
  · subst h1; simp
  · obtain ⟨Z, _, t, _, rfl⟩ := h1
    have e := mList_len Z
    have e2 : Z.length = es.length := by rw [← pullsL_len es h]; exact t.1
    omega
def srcE (h : Int) : Int := if h < 0 ∨ 1000 < h then 3 else 0
theorem both_Sources (title : ByteArray) (rate : Int) (v : Value) (es : List Ev) (h : Int) (W : World) (hs : SlE W v es) (her : editsErr title rate es = 0) :
    (Calls Tryd.prog 7 #[.agg #[.string title, .int .i64 rate, v], .int .i64 h] W fun e w' => ∃ sv L, e = .returned (.tuple #[sv, .int .i64 (srcE h)]) ∧ SrcIs es h L ∧ SlQ w' sv L ∧ Below W.heap.size W w') ∧
    Calls Tryd.prog 10 #[.agg #[.string title, .int .i64 rate, v], .int .i64 h] W fun e w' => ∃ sv L, e = .returned (.tuple #[sv, .int .i64 (srcE h)]) ∧ SrcIs es h L ∧ SlQ w' sv L ∧ Below W.heap.size W w' := by
  obtain ⟨hok, hlen⟩ := editsErr_zero her
  unfold srcE SrcIs
  by_cases c : h < 0 ∨ 1000 < h
  · simp only [if_pos c]
    have z := conform_Sources_bad title rate v es h W hs fun _ => c
    rw [if_pos her] at z
    refine ⟨z.mono ?_, (ref_Sources_bad title rate v es h W hs c).mono ?_⟩
    · rintro e w ⟨rfl, hb⟩
      exact ⟨_, [], rfl, rfl, ⟨none, 0, rfl, fun h => absurd h (by simp)⟩, hb⟩
    · rintro e w ⟨rfl, hb⟩
      exact ⟨_, [], rfl, rfl, ⟨none, 0, rfl, fun h => absurd h (by simp)⟩, hb⟩
  · simp only [if_neg c]
    refine ⟨(conform_Sources title rate v es h W hs her (by omega) (by omega)).mono ?_, (ref_Sources title rate v es h W hs hok hlen (by omega) (by omega)).mono ?_⟩
    · rintro e w ⟨sv, L, rfl, i, o, hb⟩
      exact ⟨sv, L, rfl, i, o.sl, hb⟩
    · rintro e w ⟨sv, L, rfl, i, o, hb⟩
      exact ⟨sv, L, rfl, i, o.sl, hb⟩

/-- What At gives: one shot, and what the law asks of it. -/
theorem both_At (title : ByteArray) (rate : Int) (v : Value) (es : List Ev) (f h : Int) (her : editsErr title rate es = 0) : ∃ (e : Int) (r : ByteArray) (x : Int) (s : ByteArray) (g : Int) (q : Nat) (er : Int),
    (∀ W, SlE W v es → Calls Tryd.prog 6 #[.agg #[.string title, .int .i64 rate, v], .int .i64 f] W fun y w' => y = .returned (.tuple #[.agg #[.int .i64 e, .string r, .int .i64 x, .string s, .int .i64 g, .float .f32 q], .int .i64 er]) ∧ Below W.heap.size W w') ∧
    (∀ W, SlE W v es → Calls Tryd.prog 9 #[.agg #[.string title, .int .i64 rate, v], .int .i64 f] W fun y w' => y = .returned (.tuple #[.agg #[.int .i64 e, .string r, .int .i64 x, .string s, .int .i64 g, .float .f32 q], .int .i64 er]) ∧ Below W.heap.size W w') ∧
    (∀ w, (Op.equalIn 10000 30 (.agg #[.int .i64 e, .string r, .int .i64 x, .string s, .int .i64 g, .float .f32 q]) (.agg #[.int .i64 e, .string r, .int .i64 x, .string s, .int .i64 g, .float .f32 q])).run Tryd.prog w = .ok true w) ∧
    (er = 0 → srcE h = 0 → (∀ L, SrcIs es h L → L.any (inPl r x) = true ∧ (s = ⟨#[]⟩ ∨ L.any (inPl s g) = true)) ∧ (FloatKind.f32.format.order q 0 == some .gt) = true ∧ (FloatKind.f32.format.order q 1065353216 == some .gt) = false ∧ (FloatKind.f32.format.order q 1065353216).isSome = true) := by
  obtain ⟨hok, hlen⟩ := editsErr_zero her
  have hA := fun W hs => conform_At title rate v es f W hs
  rw [her] at hA
  have eqs : ∀ (e x g : Int) (r s : ByteArray) (q : Nat), (FloatKind.f32.format.order q q == some .eq) = true → ∀ w, (Op.equalIn 10000 30 (.agg #[.int .i64 e, .string r, .int .i64 x, .string s, .int .i64 g, .float .f32 q]) (.agg #[.int .i64 e, .string r, .int .i64 x, .string s, .int .i64 g, .float .f32 q])).run Tryd.prog w = .ok true w := by
    intro e x g r s q hq w
    rw [run_eq_shot, hq]
    simp
  have z0 : (FloatKind.f32.format.order 0 0 == some .eq) = true := word_self (show rd 0 = .number false 0 (-149) by decide)
  by_cases hf : f < 0
  · have hv : atP 0 es f = .tuple #[.agg #[.int .i64 0, .string ⟨#[]⟩, .int .i64 0, .string ⟨#[]⟩, .int .i64 0, .float .f32 0], .int .i64 3] := by
      unfold atP
      rw [if_neg (by simp), if_pos hf]
    simp only [hv] at hA
    exact ⟨0, ⟨#[]⟩, 0, ⟨#[]⟩, 0, 0, 3, hA, fun W hs => ref_At_neg title rate v es f W hs hf, eqs _ _ _ _ _ _ z0, fun h => absurd h (by decide)⟩
  · have hv : atP 0 es f = atR es f := by
      unfold atP
      rw [if_neg (by simp), if_neg hf]
    simp only [hv] at hA
    have hB := fun W hs => ref_At title rate v es f W hs hok (by omega)
    unfold atR at hA hB
    cases hk : atK es f with
    | none =>
      simp only [hk] at hA hB
      exact ⟨0, ⟨#[]⟩, 0, ⟨#[]⟩, 0, 0, 11, hA, hB, eqs _ _ _ _ _ _ z0, fun h => absurd h (by decide)⟩
    | some k =>
      simp only [hk, shA] at hA hB
      refine ⟨k, _, _, _, _, _, 0, hA, hB, eqs _ _ _ _ _ _ (share_num hok hk), fun _ hh => ⟨fun L hL => ?_, share_ok hok hk⟩⟩
      unfold srcE at hh
      split at hh
      · cases hh
      rename_i c
      unfold SrcIs at hL
      rw [if_neg c] at hL
      obtain ⟨c1, c2⟩ := shot_cov hok (by omega) (by omega) hL hk
      refine ⟨inPl_any c1, ?_⟩
      rcases c2 with c2 | c2
      · exact .inl c2
      · exact .inr (inPl_any c2)
end Go.Proofs.YteebkfdocdmboaaDoor
