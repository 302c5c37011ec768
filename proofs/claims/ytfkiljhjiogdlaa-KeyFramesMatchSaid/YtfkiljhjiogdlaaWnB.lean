/- Points of a polygon, and how many edges are crossed: key.crossings. -/
import Derived.Test.YtfkiljhjiogdlaaMem
import Derived.BigQuiet
namespace Go.Proofs.Ytfkiljhjiogdlaa
open Go.RowKit

def PtAt (w : World) (b i : Nat) (p : Int × Int) : Prop := w.cell? ⟨b, i, none⟩ = some (.int .i64 p.1) ∧ w.cell? ⟨b, i + 1, none⟩ = some (.int .i64 p.2)
/-- v reads as the points ps. -/
def SlP (w : World) (v : Value) (ps : List (Int × Int)) : Prop := ∃ a c, v = .slice a ps.length c ∧ ps.length ≤ maxLen ∧ (ps = [] ∨ ∃ b o, a = some ⟨b, o, none⟩ ∧ b < w.heap.size ∧ ∀ k, k < ps.length → PtAt w b (o + k * 2) (ps.getD k default))
theorem SlP.keep {w w' : World} {v : Value} {ps : List (Int × Int)} (h : SlP w v ps) (hb : Below w.heap.size w w') : SlP w' v ps := by
  obtain ⟨a, c, h1, h2, h3⟩ := h
  refine ⟨a, c, h1, h2, ?_⟩
  rcases h3 with h3 | ⟨b, o, h4, h5, h6⟩
  · exact .inl h3
  · refine .inr ⟨b, o, h4, Nat.lt_of_lt_of_le h5 hb.size, fun k hk => ?_⟩
    obtain ⟨q0, q1⟩ := h6 k hk
    exact ⟨by rw [hb.cell (p := ⟨b, _, none⟩) h5]; exact q0, by rw [hb.cell (p := ⟨b, _, none⟩) h5]; exact q1⟩

def crossAt (ps : List (Int × Int)) (x y : Int) (k : Nat) : Bool :=
  let p := ps.getD k default
  let q := ps.getD ((k + 1) % ps.length) default
  if decide (y < p.2) = decide (y < q.2) then false
  else if p.2 < q.2 then decide ((x - p.1) * (q.2 - p.2) < (q.1 - p.1) * (y - p.2)) else decide ((q.1 - p.1) * (y - p.2) < (x - p.1) * (q.2 - p.2))
def crossTo (ps : List (Int × Int)) (x y : Int) : Nat → Int
  | 0 => 0
  | k + 1 => crossTo ps x y k + if crossAt ps x y k then 1 else 0
theorem crossTo_range (ps : List (Int × Int)) (x y : Int) (k : Nat) : 0 ≤ crossTo ps x y k ∧ crossTo ps x y k ≤ k := by
  induction k with
  | zero => simp [crossTo]
  | succ k ih => unfold crossTo; split <;> omega
theorem small_mul {a b : Int} (a1 : -4194304 ≤ a) (a2 : a ≤ 4194304) (b1 : -4194304 ≤ b) (b2 : b ≤ 4194304) : -17592186044416 ≤ a * b ∧ a * b ≤ 17592186044416 := by
  have h : (a * b).natAbs ≤ 4194304 * 4194304 := by
    rw [Int.natAbs_mul]
    exact Nat.mul_le_mul (by omega) (by omega)
  omega

set_option maxRecDepth 100000 in
set_option maxHeartbeats 4000000 in
theorem key_crossings (v : Value) (ps : List (Int × Int)) (x y : Int) (W : World) (hs : SlP W v ps) (hn : ps.length ≤ 1000) (hb : ∀ k, k < ps.length → -1048576 ≤ (ps.getD k default).1 ∧ (ps.getD k default).1 ≤ 1048576 ∧ -1048576 ≤ (ps.getD k default).2 ∧ (ps.getD k default).2 ≤ 1048576)
    (x1 : -2097152 ≤ x) (x2 : x ≤ 2097152) (y1 : -2097152 ≤ y) (y2 : y ≤ 2097152) :
    Calls Try.prog 77 #[v, .int .i64 x, .int .i64 y] W fun e w' => e = .returned (.int .i64 (crossTo ps x y ps.length)) ∧ Below W.heap.size W w' := by
  obtain ⟨a, c, rfl, hmax, hform⟩ := hs
  obtain ⟨n, hnn⟩ : ∃ n, n = ps.length := ⟨_, rfl⟩
  rw [← hnn] at hn hmax ⊢
  have Hn := Lib.hid hnn
  have Hb := Lib.hid hb
  clear hnn hb hmax
  go_enter Try.func77, Try.ntmps77
  go_wp2_with fail
  go_loopw [7, 15] (fun s i wr => ∃ k : Nat, k ≤ n ∧ i = .int .i64 (k : Int) ∧ s = .int .i64 (crossTo ps x y k) ∧ Below W.heap.size W wr) (fun _ i _ => n - (intOf i).toNat)
  case atStart => exact ⟨0, by omega, rfl, rfl, Below.refl _ _⟩
  case round =>
    obtain ⟨k, hk, rfl, rfl, B⟩ := hrel
    by_cases hlt : k < n
    · rcases hform with h0 | ⟨b, o, rfl, hbl, hat⟩
      · exfalso
        have := Hn.out
        rw [h0] at this
        simp at this
        omega
      obtain ⟨m, hm⟩ : ∃ m, m = (k + 1) % n := ⟨_, rfl⟩
      have hmn : m < n := by rw [hm]; exact Nat.mod_lt _ (by omega)
      have hmod : ((k : Int) + 1) % (n : Int) = (m : Int) := by rw [hm]; push_cast; rfl
      obtain ⟨z1, z2⟩ := hat k (by rw [← Hn.out]; exact hlt)
      obtain ⟨z3, z4⟩ := hat m (by rw [← Hn.out]; exact hmn)
      obtain ⟨p1, p2, p3, p4⟩ := Hb.out k (by rw [← Hn.out]; exact hlt)
      obtain ⟨r1, r2, r3, r4⟩ := Hb.out m (by rw [← Hn.out]; exact hmn)
      have hst : crossTo ps x y (k + 1) = crossTo ps x y k + if crossAt ps x y k then 1 else 0 := rfl
      have hca : crossAt ps x y k = if decide (y < (ps.getD k default).2) = decide (y < (ps.getD m default).2) then false else if (ps.getD k default).2 < (ps.getD m default).2 then decide ((x - (ps.getD k default).1) * ((ps.getD m default).2 - (ps.getD k default).2) < ((ps.getD m default).1 - (ps.getD k default).1) * (y - (ps.getD k default).2)) else decide (((ps.getD m default).1 - (ps.getD k default).1) * (y - (ps.getD k default).2) < (x - (ps.getD k default).1) * ((ps.getD m default).2 - (ps.getD k default).2)) := by
        unfold crossAt
        rw [← Hn.out, ← hm]
      have hcr := crossTo_range ps x y k
      have e1 : wr.cell? ⟨b, o + k * 2, none⟩ = _ := (B.cell (p := ⟨b, o + k * 2, none⟩) hbl).trans z1
      have e2 : wr.cell? ⟨b, o + k * 2 + 1, none⟩ = _ := (B.cell (p := ⟨b, o + k * 2 + 1, none⟩) hbl).trans z2
      have e3 : wr.cell? ⟨b, o + m * 2, none⟩ = _ := (B.cell (p := ⟨b, o + m * 2, none⟩) hbl).trans z3
      have e4 : wr.cell? ⟨b, o + m * 2 + 1, none⟩ = _ := (B.cell (p := ⟨b, o + m * 2 + 1, none⟩) hbl).trans z4
      have hbw : b < wr.heap.size := Nat.lt_of_lt_of_le hbl B.size
      generalize crossTo ps x y k = C at *
      generalize (ps.getD k default).1 = px at *
      generalize (ps.getD k default).2 = py at *
      generalize (ps.getD m default).1 = qx at *
      generalize (ps.getD m default).2 = qy at *
      obtain ⟨s1, s2⟩ := small_mul (a := x - px) (b := qy - py) (by omega) (by omega) (by omega) (by omega)
      obtain ⟨s3, s4⟩ := small_mul (a := qx - px) (b := y - py) (by omega) (by omega) (by omega) (by omega)
      have Hst := Lib.hid (And.intro hst hca)
      clear hst hca hat z1 z2 z3 z4 hm
      have hm0 : 0 ≤ ((k : Int) + 1) % (n : Int) := by rw [hmod]; omega
      go_upto_region 6 with fail
      refine name_world ?_
      intro wz hwz
      have x9 : Bx wz wr.heap.size 71 #[.int .i64 px, .int .i64 py] := by rw [hwz]; exact (Bx.new _ _ _).alloc _
      have x10 : Bx wz (wr.heap.size + 1) 71 #[.int .i64 qx, .int .i64 qy] := by rw [hwz]; exact Bx.at _ (by simp)
      have B2 : Below W.heap.size W wz := by rw [hwz]; exact bnew (bnew B)
      clear hwz B e1 e2 e3 e4 hbw
      obtain ⟨q9, f9, l9⟩ := x9.all
      obtain ⟨q10, f10, l10⟩ := x10.all
      obtain ⟨A, hA⟩ : ∃ A, (x - px) * (qy - py) = A := ⟨_, rfl⟩
      obtain ⟨D, hD⟩ : ∃ D, (qx - px) * (y - py) = D := ⟨_, rfl⟩
      rw [hA] at s1 s2
      rw [hD] at s3 s4
      by_cases hp : y < py
      · have dp : decide (y < py) = true := decide_eq_true hp
        by_cases hq : y < qy
        · have dq : decide (y < qy) = true := decide_eq_true hq
          have hv : crossTo ps x y (k + 1) = C := by have h1 := Hst.out.1; rw [Hst.out.2] at h1; rw [h1]; simp [hp, hq]
          have Hv := Lib.hid hv
          clear hv hp hq Hst hA hD
          go_wp2_with fail
          go_roundw
          case rel => exact ⟨k + 1, by omega, by go_num, by rw [Hv.out], B2⟩
          case measure => simp [intOf]; omega
        · have dq : decide (y < qy) = false := decide_eq_false hq
          have d1 : decide (py < qy) = false := decide_eq_false (by omega)
          have d2 : decide (qy ≤ py) = true := decide_eq_true (by omega)
          by_cases hc : D < A
          · have d3 : decide (D < A) = true := decide_eq_true hc
            have hv : crossTo ps x y (k + 1) = C + 1 := by have h1 := Hst.out.1; have hl : ¬ py < qy := (by omega); rw [Hst.out.2] at h1; rw [h1]; simp [hp, hq, hl, hA, hD, hc]
            have Hv := Lib.hid hv
            clear hv hp hq hc Hst
            go_wp2_with fail
            go_quiet (fail)
            go_wp2_with fail
            go_roundw
            case rel => exact ⟨k + 1, by omega, by go_num, by rw [Hv.out], below_drewN B2 _⟩
            case measure => simp [intOf]; omega
          · have d3 : decide (D < A) = false := decide_eq_false hc
            have hv : crossTo ps x y (k + 1) = C := by have h1 := Hst.out.1; have hl : ¬ py < qy := (by omega); rw [Hst.out.2] at h1; rw [h1]; simp [hp, hq, hl, hA, hD, hc]
            have Hv := Lib.hid hv
            clear hv hp hq hc Hst
            go_wp2_with fail
            go_quiet (fail)
            go_wp2_with fail
            go_roundw
            case rel => exact ⟨k + 1, by omega, by go_num, by rw [Hv.out], below_drewN B2 _⟩
            case measure => simp [intOf]; omega
      · have dp : decide (y < py) = false := decide_eq_false hp
        by_cases hq : y < qy
        · have dq : decide (y < qy) = true := decide_eq_true hq
          have d1 : decide (py < qy) = true := decide_eq_true (by omega)
          have d2 : decide (qy ≤ py) = false := decide_eq_false (by omega)
          by_cases hc : A < D
          · have d3 : decide (A < D) = true := decide_eq_true hc
            have hv : crossTo ps x y (k + 1) = C + 1 := by have h1 := Hst.out.1; have hl : py < qy := (by omega); rw [Hst.out.2] at h1; rw [h1]; simp [hp, hq, hl, hA, hD, hc]
            have Hv := Lib.hid hv
            clear hv hp hq hc Hst
            go_wp2_with fail
            go_quiet (fail)
            go_wp2_with fail
            go_roundw
            case rel => exact ⟨k + 1, by omega, by go_num, by rw [Hv.out], below_drewN B2 _⟩
            case measure => simp [intOf]; omega
          · have d3 : decide (A < D) = false := decide_eq_false hc
            have hv : crossTo ps x y (k + 1) = C := by have h1 := Hst.out.1; have hl : py < qy := (by omega); rw [Hst.out.2] at h1; rw [h1]; simp [hp, hq, hl, hA, hD, hc]
            have Hv := Lib.hid hv
            clear hv hp hq hc Hst
            go_wp2_with fail
            go_quiet (fail)
            go_wp2_with fail
            go_roundw
            case rel => exact ⟨k + 1, by omega, by go_num, by rw [Hv.out], below_drewN B2 _⟩
            case measure => simp [intOf]; omega
        · have dq : decide (y < qy) = false := decide_eq_false hq
          have hv : crossTo ps x y (k + 1) = C := by have h1 := Hst.out.1; rw [Hst.out.2] at h1; rw [h1]; simp [hp, hq]
          have Hv := Lib.hid hv
          clear hv hp hq Hst hA hD
          go_wp2_with fail
          go_roundw
          case rel => exact ⟨k + 1, by omega, by go_num, by rw [Hv.out], B2⟩
          case measure => simp [intOf]; omega
    · obtain rfl : k = n := by omega
      go_wp2_with fail
      go_ret
      exact ⟨rfl, B⟩
end Go.Proofs.Ytfkiljhjiogdlaa
