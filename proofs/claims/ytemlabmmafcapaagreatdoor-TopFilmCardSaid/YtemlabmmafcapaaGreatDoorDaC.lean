/- dyeref1.Compare. (printed by gen_dac.py) -/
import Derived.Test.YtemlabmmafcapaaGreatDoorDaK
import Derived.Test.YtemlabmmafcapaaGreatDoorDaO
import Derived.Test.YtemlabmmafcapaaGreatDoorDaR
import Derived.Test.YtemlabmmafcapaaGreatDoorDaE
namespace Go.Proofs.YtemlabmmafcapaaGreatDoor
open Go.RowKit

theorem marksR_snoc (es : List Ev) (j : Nat) (hj : j < es.length) : marksR (es.take (j + 1)) = marksR (es.take j) ++ (([(es.getD j default).pos, (es.getD j default).stop] ++ (List.range ((es.getD j default).len + 1).toNat).map fun (k : Nat) => (es.getD j default).pos + (k : Int))) := by
  induction es generalizing j with
  | nil => simp at hj
  | cons v r ih =>
    cases j with
    | zero => simp [marksR, List.getD]
    | succ j =>
      have hj' : j < r.length := by simpa using hj
      have := ih j hj'
      rw [List.take_succ_cons, marksR, this, List.take_succ_cons, marksR, List.append_assoc]
      simp [List.getD]
/-- What a list's events are bound by. -/
theorem ev_bounds {es : List Ev} (hok : evsTo es es.length = 0) {j : Nat} (hj : j < es.length) : 0 ≤ (es.getD j default).inn ∧ (es.getD j default).inn < (es.getD j default).out ∧ (es.getD j default).out ≤ 16777216 ∧ 0 ≤ (es.getD j default).pos ∧ (es.getD j default).pos ≤ 16777216 ∧ 0 ≤ (es.getD j default).len ∧ (es.getD j default).len ≤ 250 := by
  have hz := evsTo_zero es es.length hok j hj
  obtain ⟨-, -, b1, b2, b3, b4, b5, -⟩ := evErr_zero hz
  have := evErr_zero2 hz
  exact ⟨b1, b2, b3, b4, b5, by omega, by omega⟩
theorem atR_form (es : List Ev) (f : Int) : ∃ (e : Int) (r : ByteArray) (x : Int) (s : ByteArray) (g : Int) (h : Nat) (er : Int), atR es f = .tuple #[.agg #[.int .i64 e, .string r, .int .i64 x, .string s, .int .i64 g, .float .f32 h], .int .i64 er] ∧
    ((atK es f = none ∧ er = 11 ∧ r = ⟨#[]⟩ ∧ x = 0 ∧ s = ⟨#[]⟩ ∧ g = 0 ∧ h = 0) ∨ ∃ k, atK es f = some k ∧ er = 0 ∧ shOf es f k = ⟨r, x, s, g, h⟩) := by
  unfold atR
  cases hk : atK es f with
  | none => exact ⟨_, _, _, _, _, _, _, rfl, .inl ⟨rfl, rfl, rfl, rfl, rfl, rfl, rfl⟩⟩
  | some k => exact ⟨_, _, _, _, _, _, _, rfl, .inr ⟨k, rfl, rfl, rfl⟩⟩
theorem sh_word {es : List Ev} (hok : evsTo es es.length = 0) {f : Int} {k : Nat} (hk : atK es f = some k) : (shOf es f k).share < 4294967296 ∧ ∃ m i, rd (shOf es f k).share = .number false m i := by
  obtain ⟨k1, k2⟩ := atK_is hk
  obtain ⟨b1, b2, b3, b4, b5, b6, b7⟩ := ev_bounds hok k1
  unfold hit at k2
  simp only [Bool.and_eq_true, decide_eq_true_eq] at k2
  unfold shOf
  simp only []
  split
  · rename_i h
    obtain ⟨fa, hfa⟩ : ∃ fa : Nat, f - (es.getD k default).pos + 1 = (fa : Int) := ⟨(f - (es.getD k default).pos + 1).toNat, by omega⟩
    obtain ⟨la, hla⟩ : ∃ la : Nat, (es.getD k default).len + 1 = (la : Int) := ⟨((es.getD k default).len + 1).toNat, by omega⟩
    unfold shareB
    rw [hfa, hla]
    obtain ⟨_, m, i, h2⟩ := share_dbl (a := fa) (b := la) (by omega) (by omega) (by omega) (by omega)
    exact ⟨fop_lt .quo h2 (by simp), m, i, h2⟩
  · exact ⟨show 1065353216 < 4294967296 by decide, 8388608, -23, show rd 1065353216 = _ by decide⟩
/-- How the reference finds two frames alike. -/
theorem alike_ref {es ds : List Ev} (hok : evsTo es es.length = 0) (hod : evsTo ds ds.length = 0) {f : Int} {r1 s1 r2 s2 : ByteArray} {x1 g1 x2 g2 er1 er2 : Int} {h1 h2 : Nat}
    (c1 : (atK es f = none ∧ er1 = 11 ∧ r1 = ⟨#[]⟩ ∧ x1 = 0 ∧ s1 = ⟨#[]⟩ ∧ g1 = 0 ∧ h1 = 0) ∨ ∃ k, atK es f = some k ∧ er1 = 0 ∧ shOf es f k = ⟨r1, x1, s1, g1, h1⟩)
    (c2 : (atK ds f = none ∧ er2 = 11 ∧ r2 = ⟨#[]⟩ ∧ x2 = 0 ∧ s2 = ⟨#[]⟩ ∧ g2 = 0 ∧ h2 = 0) ∨ ∃ k, atK ds f = some k ∧ er2 = 0 ∧ shOf ds f k = ⟨r2, x2, s2, g2, h2⟩) :
    alike2 es ds f = ((er1 == er2) && ((er1 != 0) || (decide (r1 = r2) && (decide (x1 = x2) && (decide (s1 = s2) && (decide (g1 = g2) && FloatKind.f32.format.order h1 h2 == some .eq)))))) := by
  unfold alike2
  rcases c1 with ⟨a1, rfl, _⟩ | ⟨k, a1, rfl, a3⟩
  · rcases c2 with ⟨b1, rfl, _⟩ | ⟨j, b1, rfl, b3⟩
    · rw [a1, b1]; rfl
    · rw [a1, b1]; rfl
  · rcases c2 with ⟨b1, rfl, _⟩ | ⟨j, b1, rfl, b3⟩
    · rw [a1, b1]; rfl
    · rw [a1, b1]
      obtain ⟨w1, m1, i1, q1⟩ := sh_word hok a1
      obtain ⟨w2, m2, i2, q2⟩ := sh_word hod b1
      simp only []
      rw [a3] at w1 q1 ⊢
      rw [b3] at w2 q2 ⊢
      simp only [] at w1 w2 q1 q2
      have he : (FloatKind.f32.format.order h1 h2 == some .eq) = decide (h1 = h2) := by
        by_cases hh : h1 = h2
        · subst hh
          rw [decide_eq_true rfl]
          show ((rd h1).order (rd h1) == some .eq) = true
          rw [order_self (by rw [q1]; rfl)]; rfl
        · rw [decide_eq_false hh]
          cases ho : (FloatKind.f32.format.order h1 h2 == some .eq)
          · rfl
          · have ho2 : FloatKind.f32.format.order h1 h2 = some .eq := by simpa using ho
            exact absurd (pos_inj w1 w2 q1 q2 ho2) hh
      rw [he]
      simp [Sh.mk.injEq]
/-- What the reference's Compare gives. -/
def cmpR (ea eb : List Ev) : List (Int × Int) := rngs (marked ([0] ++ marksR ea ++ marksR eb)) (alike2 ea eb) ((marked ([0] ++ marksR ea ++ marksR eb)).length - 1)
theorem rngs_len (M : List Int) (al : Int → Bool) : ∀ k, (rngs M al k).length ≤ k
  | 0 => Nat.le_refl _
  | k + 1 => by
    have := rngs_len M al k
    unfold rngs stepR
    split
    · omega
    · split
      · rw [List.length_set]; omega
      · rw [List.length_append, List.length_singleton]; omega
theorem marksR_nonneg {es : List Ev} (hok : evsTo es es.length = 0) : ∀ x, x ∈ marksR es → 0 ≤ x := by
  intro x hx
  have hl : ∀ v, v ∈ es → 0 ≤ v.len ∧ 0 ≤ v.pos ∧ v.inn < v.out := by
    intro v hv
    obtain ⟨j, hj, e⟩ := List.mem_iff_getElem.1 hv
    have e : es.getD j default = v := by simp [List.getD, hj, e]
    obtain ⟨b1, b2, b3, b4, b5, b6, b7⟩ := ev_bounds hok hj
    rw [e] at b2 b4 b6
    exact ⟨b6, b4, b2⟩
  clear hok
  induction es with
  | nil => cases hx
  | cons v r ih =>
    unfold marksR at hx
    obtain ⟨h1, h2, h3⟩ := hl v (by simp)
    simp only [List.mem_append] at hx
    rcases hx with (hx | hx) | hx
    · have : x = v.pos ∨ x = v.stop := by simpa using hx
      unfold Ev.stop at this
      omega
    · obtain ⟨k, hk, rfl⟩ := List.mem_map.1 hx
      omega
    · exact ih hx (fun u hu => hl u (by simp [hu]))
theorem own_mono {w : World} {B B' : Nat} {e : TypeId} {s : Nat} {v : Value} {n : Nat} {xs : List Value} (h : w.ownsRow B e s v n xs) (hb : B' ≤ B) : w.ownsRow B' e s v n xs := by
  refine ⟨h.1, ?_⟩
  rcases h.2 with h0 | ⟨g, cap, cur, e1, e2, e3⟩
  · exact .inl h0
  · exact .inr ⟨g, cap, cur, e1, by omega, e3⟩
theorem stop_here {p : Prop} (h : Hid p) : p := h.out
theorem below_eq {w w0 : World} {ob : Obj} (h : w = w0.alloc ob) : Below w0.heap.size w0 w := by rw [h]; exact bnew (Below.refl _ _)
theorem Mk.form {B : Nat} {w : World} {v : Value} {zs : List Int} {K : List Nat} (h : Mk B w v zs K) : ∃ g cap, v = .slice (some ⟨g, 0, none⟩) zs.length cap ∧ Mk B w (.slice (some ⟨g, 0, none⟩) zs.length cap) zs K := by
  obtain ⟨g, cap, rfl, h1⟩ := h
  exact ⟨g, cap, rfl, g, cap, rfl, h1⟩
end Go.Proofs.YtemlabmmafcapaaGreatDoor
