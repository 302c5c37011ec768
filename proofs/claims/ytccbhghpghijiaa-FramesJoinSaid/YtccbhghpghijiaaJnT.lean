/- The tiles of a frame, joined in an order of their own: plain. No program in sight. -/
import Derived.Test.YtccbhghpghijiaaJnF
import Derived.Test.YtccbhghpghijiaaGrn
import Derived.Test.YtccbhghpghijiaaCutE
namespace Go.Proofs.Ytccbhghpghijiaa
open Go.RowKit

/-- f is tile k of the frame, cut. -/
structure IsPart (x y : Int) (w h : Nat) (n : Int) (xs : List Nat) (k : Nat) (f : Fr) : Prop where
  hx : f.x = x + (nsum (colN x w n) (k % cnt x w n) : Nat)
  hy : f.y = y + (nsum (colN y h n) (k / cnt x w n) : Nat)
  hw : f.w = (colN x w n (k % cnt x w n) : Nat)
  hh : f.h = (colN y h n (k / cnt x w n) : Nat)
  hV : f.V = madeL (cutP xs (colN x w n (k % cnt x w n)) w (nsum (colN x w n) (k % cnt x w n)) (nsum (colN y h n) (k / cnt x w n))) (4 * (colN x w n (k % cnt x w n) * colN y h n (k / cnt x w n)))
theorem nsum_apart {A : Nat → Nat} {i i' a : Nat} (h1 : nsum A i ≤ a) (h2 : a < nsum A i + A i) (h3 : nsum A i' ≤ a) (h4 : a < nsum A i' + A i') : i = i' := by
  rcases Nat.lt_trichotomy i i' with h | h | h
  · have := nsum_le A h; omega
  · exact h
  · have := nsum_le A h; omega
theorem nsum_find (A : Nat → Nat) : ∀ (c a : Nat), a < nsum A c → ∃ i, i < c ∧ nsum A i ≤ a ∧ a < nsum A i + A i
  | 0, a, h => by simp [nsum] at h
  | c + 1, a, h => by
    rw [nsum] at h
    by_cases h1 : a < nsum A c
    · obtain ⟨i, h2, h3⟩ := nsum_find A c a h1
      exact ⟨i, by omega, h3⟩
    · exact ⟨c, by omega, by omega, h⟩
section
variable {x y : Int} {w h : Nat} {n : Int} {xs : List Nat}
theorem IsPart.cov {k : Nat} {f : Fr} (hp : IsPart x y w h n xs k f) (p : Int × Int) : covB f p = true ↔ (x + (nsum (colN x w n) (k % cnt x w n) : Nat) ≤ p.1 ∧ p.1 < x + ((nsum (colN x w n) (k % cnt x w n) + colN x w n (k % cnt x w n) : Nat) : Int)) ∧ (y + (nsum (colN y h n) (k / cnt x w n) : Nat) ≤ p.2 ∧ p.2 < y + ((nsum (colN y h n) (k / cnt x w n) + colN y h n (k / cnt x w n) : Nat) : Int)) := by
  unfold covB
  rw [hp.hx, hp.hy, hp.hw, hp.hh]
  simp only [Bool.and_eq_true, decide_eq_true_eq]
  omega
/-- Two tiles that have a place in common are one. -/
theorem IsPart.same {k k' : Nat} {f f' : Fr} (hp : IsPart x y w h n xs k f) (hp' : IsPart x y w h n xs k' f') (p : Int × Int) (h1 : covB f p = true) (h2 : covB f' p = true) : k = k' := by
  obtain ⟨⟨a1, a2⟩, a3, a4⟩ := (hp.cov p).1 h1
  obtain ⟨⟨b1, b2⟩, b3, b4⟩ := (hp'.cov p).1 h2
  have e1 : k % cnt x w n = k' % cnt x w n := nsum_apart (A := colN x w n) (a := (p.1 - x).toNat) (by omega) (by omega) (by omega) (by omega)
  have e2 : k / cnt x w n = k' / cnt x w n := nsum_apart (A := colN y h n) (a := (p.2 - y).toNat) (by omega) (by omega) (by omega) (by omega)
  have d1 := Nat.div_add_mod k (cnt x w n)
  have d2 := Nat.div_add_mod k' (cnt x w n)
  rw [← d1, ← d2, e1, e2]
theorem mem_take_getD {L : List Fr} {m : Nat} {f : Fr} (h : f ∈ L.take m) : ∃ q, q < m ∧ q < L.length ∧ f = L.getD q default := by
  obtain ⟨q, hq, he⟩ := List.mem_iff_getElem.1 h
  rw [List.length_take] at hq
  refine ⟨q, by omega, by omega, ?_⟩
  rw [← he, List.getElem_take]
  simp [List.getD, show q < L.length by omega]
/-- The list's frames are tiles, each another one. -/
structure Parts (x y : Int) (w h : Nat) (n : Int) (xs : List Nat) (L : List Fr) (s : Nat → Nat) : Prop where
  lt : ∀ m, m < L.length → s m < cnt y h n * cnt x w n
  is : ∀ m, m < L.length → IsPart x y w h n xs (s m) (L.getD m default)
  inj : ∀ a b, a < L.length → b < L.length → s a = s b → a = b
theorem cutP_len (xs : List Nat) (a b c d e : Nat) : (madeL (cutP xs a b c d) e).length = e := madeL_len _ _
theorem part_region {k : Nat} {f : Fr} (hn : 1 ≤ n) (hr : checkRegion x y w h = 0) (hk : k < cnt y h n * cnt x w n) (hp : IsPart x y w h n xs k f) : f.err = 0 ∧ inB f.x f.y f.w f.h x y w h = true := by
  obtain ⟨b1, b2, b3, b4, b5, b6, b7, b8, b9⟩ := checkRegion_ok hr
  obtain ⟨-, t1, t2, t3, t4⟩ := tile_at x y w h n (by omega) b1 b3 k hk
  have hx := hp.hx
  have hy := hp.hy
  have hw := hp.hw
  have hh := hp.hh
  have hl : f.V.length = 4 * (colN x w n (k % cnt x w n) * colN y h n (k / cnt x w n)) := by rw [hp.hV, madeL_len]
  generalize colN x w n (k % cnt x w n) = A at *
  generalize colN y h n (k / cnt x w n) = B at *
  generalize nsum (colN x w n) (k % cnt x w n) = S at *
  generalize nsum (colN y h n) (k / cnt x w n) = T at *
  have hAB : (A : Int) * (B : Int) ≤ (w : Int) * (h : Int) := Int.mul_le_mul (by omega) (by omega) (by omega) (by omega)
  constructor
  · have hc : checkRegion f.x f.y f.w f.h = 0 := by
      rw [hx, hy, hw, hh]
      unfold checkRegion
      rw [if_neg (by omega), if_neg (by omega)]
      split
      · rename_i hc
        exfalso
        unfold outB at hc
        simp only [Bool.or_eq_true, decide_eq_true_eq] at hc
        omega
      · rfl
    unfold Fr.err checkFrame
    rw [if_pos hc, if_pos]
    rw [hl, hw, hh, Int.mul_assoc]
    push_cast
    rfl
  · unfold inB
    simp only [Bool.and_eq_true, decide_eq_true_eq]
    omega
theorem Parts.to {L : List Fr} {s : Nat → Nat} (hn : 1 ≤ n) (hr : checkRegion x y w h = 0) (hP : Parts x y w h n xs L s) : ∀ m, m ≤ L.length → joinTo x y w h L m = 0 := by
  intro m
  induction m with
  | zero => intro _; rfl
  | succ m ih =>
    intro hm
    rw [joinTo, if_neg (by rw [ih (by omega)]; simp)]
    obtain ⟨e1, e2⟩ := part_region hn hr (hP.lt m (by omega)) (hP.is m (by omega))
    unfold joinAt
    rw [if_neg (by rw [e1]; simp), if_neg (by rw [e2]; simp), if_neg]
    rw [Bool.not_eq_true]
    refine dup_not fun j i hj hi => ?_
    unfold src
    have hf : (L.take m).find? (fun f => covB f (ptAt (L.getD m default) j i)) = none := by
      rw [List.find?_eq_none]
      intro f hf hc
      obtain ⟨q, hq, hql, rfl⟩ := mem_take_getD hf
      have hc2 : covB (L.getD m default) (ptAt (L.getD m default) j i) = true := by
        unfold covB ptAt
        simp only [Bool.and_eq_true, decide_eq_true_eq]
        omega
      have := (hP.is q hql).same (hP.is m (by omega)) _ hc hc2
      have := hP.inj q m hql (by omega) this
      omega
    rw [hf]
    rfl
/-- The area of tile k. -/
def areaN (x y : Int) (w h : Nat) (n : Int) (k : Nat) : Nat := colN x w n (k % cnt x w n) * colN y h n (k / cnt x w n)
theorem nsum_mulr (A : Nat → Nat) (b : Nat) : ∀ c, nsum (fun s => A s * b) c = nsum A c * b
  | 0 => by simp [nsum]
  | c + 1 => by rw [nsum, nsum_mulr A b c, nsum, Nat.add_mul]
theorem nsum_mull (A : Nat → Nat) (b : Nat) : ∀ c, nsum (fun s => b * A s) c = b * nsum A c
  | 0 => by simp [nsum]
  | c + 1 => by rw [nsum, nsum_mull A b c, nsum, Nat.mul_add]
theorem areaN_all (hn : 0 < n) (hw : 1 ≤ w) (hh : 1 ≤ h) : nsum (areaN x y w h n) (cnt y h n * cnt x w n) = w * h := by
  have hc := cnt_pos x w n hn (by omega)
  have h1 := colN_all x w n hn (by omega)
  have h2 := colN_all y h n hn (by omega)
  rw [nsum_mul]
  have e : ∀ r, nsum (fun s => areaN x y w h n (r * cnt x w n + s)) (cnt x w n) = nsum (colN x w n) (cnt x w n) * colN y h n r := fun r => by
    rw [← nsum_mulr]
    apply nsum_congr
    intro s hs
    unfold areaN
    rw [show r * cnt x w n + s = s + cnt x w n * r by rw [Nat.mul_comm, Nat.add_comm], Nat.add_mul_mod_self_left, Nat.mod_eq_of_lt hs, Nat.add_mul_div_left _ _ hc, Nat.div_eq_of_lt hs, Nat.zero_add]
  simp only [e]
  rw [nsum_mull]
  have e1 : nsum (colN x w n) (cnt x w n) = w := by omega
  have e2 : nsum (colN y h n) (cnt y h n) = h := by omega
  rw [e1, e2]
theorem nsum_rot (F : Nat → Nat) (k T : Nat) (hk : k ≤ T) : nsum (fun m => F ((k + m) % T)) T = nsum F T := by
  obtain ⟨d, hd⟩ : ∃ d, T = d + k := ⟨T - k, by omega⟩
  have h1 : nsum (fun m => F ((k + m) % T)) (d + k) = nsum (fun m => F (k + m)) d + nsum F k := by
    rw [nsum_add]
    congr 1
    · apply nsum_congr
      intro m hm
      show F ((k + m) % T) = _
      rw [Nat.mod_eq_of_lt (by omega)]
    · apply nsum_congr
      intro m hm
      show F ((k + (d + m)) % T) = _
      rw [show k + (d + m) = m + T by omega, Nat.add_mod_right, Nat.mod_eq_of_lt (by omega)]
  have h2 : nsum F (k + d) = nsum F k + nsum (fun m => F (k + m)) d := nsum_add F k d
  rw [← hd] at h1
  rw [show k + d = T by omega] at h2
  omega
theorem Parts.cnt {L : List Fr} {s : Nat → Nat} (hP : Parts x y w h n xs L s) : ∀ m, m ≤ L.length → cntF L m = nsum (fun q => areaN x y w h n (s q)) m
  | 0, _ => rfl
  | m + 1, hm => by
    have hp := hP.is m (by omega)
    rw [cntF, nsum, hP.cnt m (by omega), hp.hw, hp.hh]
    congr 1
/-- All tiles, from the k-th on and around. -/
theorem Parts.whole {L : List Fr} {k : Nat} (hn : 1 ≤ n) (hr : checkRegion x y w h = 0) (hT : L.length = Go.Proofs.Ytccbhghpghijiaa.cnt y h n * Go.Proofs.Ytccbhghpghijiaa.cnt x w n) (hk : k ≤ L.length) (hP : Parts x y w h n xs L fun m => (k + m) % L.length) : joinErr x y w h L = 0 := by
  obtain ⟨b1, b2, b3, b4, b5, b6, b7, b8, b9⟩ := checkRegion_ok hr
  rw [joinErr_end hr (hP.to hn hr _ (Nat.le_refl _)), hP.cnt _ (Nat.le_refl _), nsum_rot _ _ _ hk, hT, areaN_all (by omega) (by omega) (by omega), if_neg]
  simp
theorem Parts.less {L : List Fr} {k T : Nat} (hn : 1 ≤ n) (hr : checkRegion x y w h = 0) (hT : T = Go.Proofs.Ytccbhghpghijiaa.cnt y h n * Go.Proofs.Ytccbhghpghijiaa.cnt x w n) (hl : L.length + 1 = T) (hk : k < T) (hP : Parts x y w h n xs L fun m => (k + 1 + m) % T) : joinErr x y w h L = 10 := by
  obtain ⟨b1, b2, b3, b4, b5, b6, b7, b8, b9⟩ := checkRegion_ok hr
  rw [joinErr_end hr (hP.to hn hr _ (Nat.le_refl _)), hP.cnt _ (Nat.le_refl _), if_pos]
  have h1 := nsum_rot (areaN x y w h n) (k + 1) T (by omega)
  rw [← hl, nsum, hl, show k + 1 + L.length = k + T by omega, Nat.add_mod_right, Nat.mod_eq_of_lt hk] at h1
  have h2 := areaN_all (x := x) (y := y) (w := w) (h := h) (n := n) (by omega) (by omega) (by omega)
  rw [← hT] at h2
  obtain ⟨-, t1, t2, -, -⟩ := tile_at x y w h n (by omega) b1 b3 k (by omega)
  have h3 : 1 ≤ areaN x y w h n k := Nat.mul_pos t1 t2
  have h4 : nsum (fun q => areaN x y w h n ((k + 1 + q) % T)) L.length < w * h := by omega
  exact_mod_cast h4
theorem cut_val {A B S T' a b c : Nat} (xs : List Nat) (h1 : S ≤ a) (h2 : a < S + A) (h3 : T' ≤ b) (h4 : b < T' + B) (hc : c < 4) :
    (madeL (cutP xs A w S T') (4 * (A * B))).getD (4 * ((b - T') * A + (a - S)) + c) 0 = canon (xs.getD (4 * (b * w + a) + c) 0) := by
  have hlt : (b - T') * A + (a - S) < A * B := place_lt (by omega) (by omega)
  rw [madeL_get _ _ _ (by omega)]
  unfold cutP
  rw [show (4 * ((b - T') * A + (a - S)) + c) / 4 = (b - T') * A + (a - S) by omega, show (4 * ((b - T') * A + (a - S)) + c) % 4 = c by omega]
  rw [show (b - T') * A + (a - S) = (a - S) + A * (b - T') by rw [Nat.mul_comm, Nat.add_comm], Nat.add_mul_div_left _ _ (by omega), Nat.div_eq_of_lt (show a - S < A by omega), Nat.add_mul_mod_self_left, Nat.mod_eq_of_lt (show a - S < A by omega)]
  rw [show T' + (0 + (b - T')) = b by omega, show b * w + S + (a - S) = b * w + a by omega]
theorem canon_canon (v : Nat) : canon (canon v) = canon v := by
  unfold canon
  split
  · rename_i h; split <;> simp_all
  · rfl
/-- The joined frame is the frame, cleaned. -/
theorem Parts.out {L : List Fr} {s : Nat → Nat} (hn : 1 ≤ n) (hw : 1 ≤ w) (hh : 1 ≤ h) (hP : Parts x y w h n xs L s) (hs : ∀ k, k < Go.Proofs.Ytccbhghpghijiaa.cnt y h n * Go.Proofs.Ytccbhghpghijiaa.cnt x w n → ∃ m, m < L.length ∧ s m = k) :
    madeL (outP x y w L L.length) (4 * (w * h)) = madeL (fun p k => xs.getD (4 * p + k) 0) (4 * (w * h)) := by
  unfold madeL
  apply List.map_congr_left
  intro q hq
  rw [List.mem_range] at hq
  have hc4 : q % 4 < 4 := Nat.mod_lt _ (by omega)
  generalize q % 4 = c at hc4
  have hp : q / 4 < w * h := by omega
  generalize q / 4 = p at hp
  have ha : p % w < w := Nat.mod_lt _ (by omega)
  have hb : p / w < h := Nat.div_lt_of_lt_mul hp
  have hpab : p = p / w * w + p % w := by have := Nat.div_add_mod p w; rw [Nat.mul_comm] at this; omega
  have e1 := colN_all x w n (by omega) (by omega)
  have e2 := colN_all y h n (by omega) (by omega)
  obtain ⟨i, hi, i1, i2⟩ := nsum_find (colN x w n) (Go.Proofs.Ytccbhghpghijiaa.cnt x w n) (p % w) (by omega)
  obtain ⟨j, hj, j1, j2⟩ := nsum_find (colN y h n) (Go.Proofs.Ytccbhghpghijiaa.cnt y h n) (p / w) (by omega)
  have hk := place_lt hj hi
  rw [Nat.mul_comm (Go.Proofs.Ytccbhghpghijiaa.cnt x w n)] at hk
  obtain ⟨m, hm, hsm⟩ := hs _ hk
  have hpos := hi
  have k1 : (j * Go.Proofs.Ytccbhghpghijiaa.cnt x w n + i) % Go.Proofs.Ytccbhghpghijiaa.cnt x w n = i := by rw [Nat.add_comm, Nat.add_mul_mod_self_right]; exact Nat.mod_eq_of_lt hi
  have k2 : (j * Go.Proofs.Ytccbhghpghijiaa.cnt x w n + i) / Go.Proofs.Ytccbhghpghijiaa.cnt x w n = j := by rw [Nat.add_comm, Nat.add_mul_div_right _ _ (by omega), Nat.div_eq_of_lt hi]; omega
  have hcov : covB (L.getD m default) (pOf x y w p) = true := by
    rw [(hP.is m hm).cov, hsm, k1, k2]
    unfold pOf
    simp only
    omega
  unfold outP
  rw [← canon_canon (xs.getD (4 * p + c) 0)]
  cases hf : src L L.length (pOf x y w p) with
  | none =>
    exfalso
    unfold src at hf
    rw [Option.map_eq_none_iff, List.find?_eq_none] at hf
    refine hf (L.getD m default) ?_ hcov
    rw [List.take_of_length_le (Nat.le_refl _)]
    have e : L.getD m default = L[m] := by simp [List.getD, hm]
    rw [e]
    exact List.getElem_mem hm
  | some z =>
    obtain ⟨f, N⟩ := z
    unfold src at hf
    rw [Option.map_eq_some_iff] at hf
    obtain ⟨f', hf1, hf2⟩ := hf
    have hc := List.find?_some hf1
    obtain ⟨q', hq1, hq2, rfl⟩ := mem_take_getD (List.mem_of_find?_eq_some hf1)
    injection hf2 with hf3 hf4
    subst hf3
    have hp' := hP.is q' hq2
    obtain ⟨⟨a1, a2⟩, a3, a4⟩ := (hp'.cov _).1 hc
    unfold pOf at a1 a2 a3 a4
    simp only at a1 a2 a3 a4
    simp only
    congr 1
    rw [← hf4, hp'.hV]
    have hN : pixN (L.getD q' default) (pOf x y w p) = (p / w - nsum (colN y h n) (s q' / Go.Proofs.Ytccbhghpghijiaa.cnt x w n)) * colN x w n (s q' % Go.Proofs.Ytccbhghpghijiaa.cnt x w n) + (p % w - nsum (colN x w n) (s q' % Go.Proofs.Ytccbhghpghijiaa.cnt x w n)) := by
      have h1 := pixN_at (f := L.getD q' default) (w := colN x w n (s q' % Go.Proofs.Ytccbhghpghijiaa.cnt x w n)) (j := p / w - nsum (colN y h n) (s q' / Go.Proofs.Ytccbhghpghijiaa.cnt x w n)) (i := p % w - nsum (colN x w n) (s q' % Go.Proofs.Ytccbhghpghijiaa.cnt x w n)) hp'.hw
      rw [← h1]
      congr 1
      unfold pOf ptAt
      rw [hp'.hx, hp'.hy]
      ext <;> simp <;> omega
    rw [hN, cut_val xs (by omega) (by omega) (by omega) (by omega) hc4, ← hpab]
end
end Go.Proofs.Ytccbhghpghijiaa
