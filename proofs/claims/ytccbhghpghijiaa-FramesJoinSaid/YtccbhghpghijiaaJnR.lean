/- The parts, turned around: plain; how they read. -/
import Derived.Test.YtccbhghpghijiaaJnL
namespace Go.Proofs.Ytccbhghpghijiaa
open Go.RowKit

theorem mod_two {a T : Nat} (h : a < T + T) : a % T = if a < T then a else a - T := by
  split
  · rename_i h1; exact Nat.mod_eq_of_lt h1
  · rename_i h1
    obtain ⟨b, rfl⟩ : ∃ b, a = b + T := ⟨a - T, by omega⟩
    rw [Nat.add_mod_right, Nat.mod_eq_of_lt (by omega)]
    omega
def rot (P : List Fr) (K : Nat) : List Fr := P.drop K ++ P.take K
theorem rot_len (P : List Fr) (K : Nat) (hK : K ≤ P.length) : (rot P K).length = P.length := by unfold rot; rw [List.length_append, List.length_drop, List.length_take]; omega
theorem rot_get (P : List Fr) (K m : Nat) (hK : K ≤ P.length) (hm : m < P.length) : (rot P K).getD m default = P.getD ((K + m) % P.length) default := by
  rw [mod_two (by omega)]
  unfold rot
  by_cases h : K + m < P.length
  · rw [if_pos h]
    simp only [List.getD]
    rw [List.getElem?_append_left (by rw [List.length_drop]; omega), List.getElem?_drop]
  · rw [if_neg h]
    simp only [List.getD]
    rw [List.getElem?_append_right (by rw [List.length_drop]; omega), List.length_drop, List.getElem?_take_of_lt (by omega), show m - (P.length - K) = K + m - P.length by omega]
section
variable {x y : Int} {w h : Nat} {n : Int} {xs : List Nat}
theorem rot_parts {P : List Fr} {K : Nat} (hp : ∀ m, m < P.length → IsPart x y w h n xs m (P.getD m default)) (hT : P.length = cnt y h n * cnt x w n) (hK : K < P.length) : Parts x y w h n xs (rot P K) fun m => (K + m) % (rot P K).length := by
  have hl := rot_len P K (by omega)
  rw [hl]
  refine ⟨fun m hm => ?_, fun m hm => ?_, fun a b ha hb he => ?_⟩
  · rw [← hT]; exact Nat.mod_lt _ (by omega)
  · rw [hl] at hm
    rw [rot_get P K m (by omega) hm]
    exact hp _ (Nat.mod_lt _ (by omega))
  · rw [hl] at ha hb
    rw [mod_two (by omega), mod_two (by omega)] at he
    split at he <;> split at he <;> omega
theorem rest_parts {P : List Fr} {K : Nat} (hp : ∀ m, m < P.length → IsPart x y w h n xs m (P.getD m default)) (hT : P.length = cnt y h n * cnt x w n) (hK : K < P.length) : Parts x y w h n xs ((rot P K).drop 1) fun m => (K + 1 + m) % P.length := by
  have hl := rot_len P K (by omega)
  have hl2 : ((rot P K).drop 1).length + 1 = P.length := by rw [List.length_drop, hl]; omega
  refine ⟨fun m hm => ?_, fun m hm => ?_, fun a b ha hb he => ?_⟩
  · rw [← hT]; exact Nat.mod_lt _ (by omega)
  · have e : ((rot P K).drop 1).getD m default = (rot P K).getD (1 + m) default := by simp only [List.getD]; rw [List.getElem?_drop]
    rw [e, rot_get P K (1 + m) (by omega) (by omega), show K + (1 + m) = K + 1 + m by omega]
    exact hp _ (Nat.mod_lt _ (by omega))
  · rw [mod_two (by omega), mod_two (by omega)] at he
    split at he <;> split at he <;> omega
theorem rot_err {P : List Fr} {K : Nat} (hn : 1 ≤ n) (hr : checkRegion x y w h = 0) (hp : ∀ m, m < P.length → IsPart x y w h n xs m (P.getD m default)) (hT : P.length = cnt y h n * cnt x w n) (hK : K < P.length) : joinErr x y w h (rot P K) = 0 :=
  (rot_parts hp hT hK).whole hn hr (by rw [rot_len P K (by omega), hT]) (by rw [rot_len P K (by omega)]; omega)
theorem rest_err {P : List Fr} {K : Nat} (hn : 1 ≤ n) (hr : checkRegion x y w h = 0) (hp : ∀ m, m < P.length → IsPart x y w h n xs m (P.getD m default)) (hT : P.length = cnt y h n * cnt x w n) (hK : K < P.length) : joinErr x y w h ((rot P K).drop 1) = 10 :=
  (rest_parts hp hT hK).less hn hr hT (by rw [List.length_drop, rot_len P K (by omega)]; omega) hK
theorem rot_out {P : List Fr} {K : Nat} (hn : 1 ≤ n) (hw : 1 ≤ w) (hh : 1 ≤ h) (hp : ∀ m, m < P.length → IsPart x y w h n xs m (P.getD m default)) (hT : P.length = cnt y h n * cnt x w n) (hK : K < P.length) :
    madeL (outP x y w (rot P K) (rot P K).length) (4 * (w * h)) = madeL (fun p k => xs.getD (4 * p + k) 0) (4 * (w * h)) := by
  refine (rot_parts hp hT hK).out hn hw hh fun k hk => ?_
  rw [rot_len P K (by omega)]
  rw [← hT] at hk
  by_cases hc : K ≤ k
  · exact ⟨k - K, by omega, by rw [mod_two (by omega), if_pos (by omega)]; omega⟩
  · exact ⟨k + P.length - K, by omega, by rw [mod_two (by omega), if_neg (by omega)]; omega⟩
theorem PSt.ok {B : Nat} {wr : World} {v : Value} {L : List Fr} (s : PSt x y w h n xs B wr v L) : ∀ f, f ∈ L → FrOk wr f := by
  intro f hf
  obtain ⟨q, hq, he⟩ := List.mem_iff_getElem.1 hf
  obtain ⟨g, e1, -, e2, e3, e4, e5, -⟩ := s.2.2 q hq
  have e : L.getD q default = f := by rw [← he]; simp [List.getD, hq]
  rw [e] at e1 e2 e3 e4 e5
  refine ⟨.inl ⟨g, 0, f.c, by unfold Fr.pv; rw [e1], by intro h0; rw [h0] at e3; simp at e3, e5⟩, by omega, by unfold maxLen; omega⟩
end
theorem PSt.far {x y : Int} {w h : Nat} {n : Int} {xs : List Nat} {B : Nat} {wr : World} {v : Value} {L : List Fr} (s : PSt x y w h n xs B wr v L) : ∀ f, f ∈ L → ∃ g, f.a = some ⟨g, 0, none⟩ ∧ B ≤ g := by
  intro f hf
  obtain ⟨q, hq, he⟩ := List.mem_iff_getElem.1 hf
  obtain ⟨g, e1, e2, -⟩ := s.2.2 q hq
  have e : L.getD q default = f := by rw [← he]; simp [List.getD, hq]
  rw [e] at e1
  exact ⟨g, e1, e2⟩
theorem nsum_ge (A : Nat → Nat) : ∀ c, (∀ i, i < c → 1 ≤ A i) → c ≤ nsum A c
  | 0, _ => Nat.le_refl _
  | c + 1, h => by
    have h1 := nsum_ge A c fun i hi => h i (by omega)
    have h2 := h c (by omega)
    rw [nsum]; omega
theorem cnt_small (x w n : Int) (hn : 1 ≤ n) (hw : 1 ≤ w) : (cnt x w n : Int) ≤ w := by
  have h1 := colN_all x w n (by omega) hw
  have h2 := nsum_ge (colN x w n) (cnt x w n) fun i hi => by have := colW_pos x w n i (by omega) hi hw; unfold colN; omega
  omega
theorem OutF.base {B B' : Nat} {w : World} {v : Value} {L : List Fr} (h : OutF B w v L) (hb : B' ≤ B) : OutF B' w v L := by
  refine ⟨h.1, ?_⟩
  rcases h.2 with h0 | ⟨g, cap, cur, e1, e2, e3⟩
  · exact .inl h0
  · exact .inr ⟨g, cap, cur, e1, by omega, e3⟩
theorem getD_mem {L : List Fr} {k : Nat} (hk : k < L.length) : L.getD k default ∈ L := by
  have e : L.getD k default = L[k] := by simp [List.getD, hk]
  rw [e]; exact List.getElem_mem hk
theorem mem_rot {P : List Fr} {K : Nat} {f : Fr} (h : f ∈ rot P K) : f ∈ P := by
  unfold rot at h
  rcases List.mem_append.1 h with h | h
  · exact List.mem_of_mem_drop h
  · exact List.mem_of_mem_take h
/-- A row of frames reads as a slice, from any of its frames on. -/
theorem rows_slF {w : World} {g o c : Nat} {L : List Fr} (hr : ∀ j u, (frCells L)[j]? = some u → w.cell? ⟨g, o + j, none⟩ = some u) (hg : g < w.heap.size) (hl : L.length ≤ 100000) (hok : ∀ f, f ∈ L → FrOk w f) : SlF w (.slice (some ⟨g, o, none⟩) L.length c) L := by
  refine ⟨_, c, rfl, by unfold maxLen; omega, .inr ⟨g, o, rfl, hg, fun k hk => ?_⟩, fun k hk => hok _ (getD_mem hk)⟩
  have h := fun i (hi : i < 5) u (hu : (frC (L.getD k default))[i]? = some u) => hr (k * 5 + i) u (by rw [frCells_get hk hi]; exact hu)
  simp only [← Nat.add_assoc] at h
  exact ⟨h 0 (by omega) _ rfl, h 1 (by omega) _ rfl, h 2 (by omega) _ rfl, h 3 (by omega) _ rfl, h 4 (by omega) _ rfl⟩
theorem slF_off {w w' : World} {b g o c n : Nat} {L : List Fr} (h : SlF w (.slice (some ⟨g, o, none⟩) n c) L) (ho : Off b w.heap.size w w') (hg : g ≠ b) (hv : ∀ f, f ∈ L → ∃ gv, f.a = some ⟨gv, 0, none⟩ ∧ gv ≠ b) : SlF w' (.slice (some ⟨g, o, none⟩) n c) L := by
  obtain ⟨a, c', h1, h2, h3, h4⟩ := h
  refine ⟨a, c', h1, h2, ?_, fun k hk => ?_⟩
  · rcases h3 with h3 | ⟨b1, o1, h5, h6, h7⟩
    · exact .inl h3
    · have hb1 : b1 = g := by
        injection h1 with h8
        rw [h5] at h8
        injection h8 with h8
        injection h8 with h8
        exact h8.symm
      subst hb1
      refine .inr ⟨b1, o1, h5, Nat.lt_of_lt_of_le h6 ho.size, fun k hk => ?_⟩
      obtain ⟨q0, q1, q2, q3, q4⟩ := h7 k hk
      have e : ∀ i, w'.cell? ⟨b1, i, none⟩ = w.cell? ⟨b1, i, none⟩ := fun i => World.cell?_of_block (w := w) (a := ⟨b1, i, none⟩) (ho.block b1 h6 hg)
      exact ⟨(e _).trans q0, (e _).trans q1, (e _).trans q2, (e _).trans q3, (e _).trans q4⟩
  · obtain ⟨h5, h6⟩ := h4 k hk
    obtain ⟨gv, e1, e2⟩ := hv _ (getD_mem hk)
    refine ⟨?_, h6⟩
    rcases h5 with ⟨b1, o1, c1, h7, h8, h9⟩ | h5
    · have hb1 : b1 = gv := by
        unfold Fr.pv at h7
        rw [e1] at h7
        injection h7 with h7
        injection h7 with h7
        injection h7 with h7
        exact h7.symm
      subst hb1
      exact .inl ⟨b1, o1, c1, h7, h8, ho.rd h9 h9.1 e2⟩
    · exact .inr h5
theorem frCells_drop (L : List Fr) (k j : Nat) : (frCells (L.drop k))[j]? = (frCells L)[k * 5 + j]? := by
  by_cases hk : k ≤ L.length
  · have h := frCells_append (L.take k) (L.drop k)
    rw [List.take_append_drop] at h
    rw [h, List.getElem?_append_right (by rw [frCells_len, List.length_take]; omega), frCells_len, List.length_take]
    congr 1
    omega
  · rw [List.drop_eq_nil_of_le (by omega)]
    have h1 : (frCells L)[k * 5 + j]? = none := by rw [List.getElem?_eq_none_iff, frCells_len]; omega
    rw [h1]; rfl
theorem frCells_take (L : List Fr) (k j : Nat) (u : Value) (h : (frCells (L.take k))[j]? = some u) : (frCells L)[j]? = some u := by
  have h1 := frCells_append (L.take k) (L.drop k)
  rw [List.take_append_drop] at h1
  rw [h1, List.getElem?_append_left (List.getElem?_eq_some_iff.1 h).1]
  exact h
theorem add5 (g k : Nat) : (⟨g, 0, none⟩ : Addr).add (k * 5) = ⟨g, k * 5, none⟩ := by
  unfold Addr.add
  split
  · rename_i h; rw [h]
  · simp
/-- l[k:]. -/
theorem run_slice_from (g T cap K : Nat) (w : World) (h1 : K ≤ T) (h2 : K < cap) : (Instr.slice 27 (.slice (some ⟨g, 0, none⟩) T cap) (some (.int .i64 (K : Int))) none none).run Try.prog w = .ok (.slice (some ⟨g, K * 5, none⟩) (T - K) (cap - K)) w := by
  unfold Instr.slice Instr.sliceBounds Instr.sliceBound
  simp [run_underlying Try.underlying27, asIntOf, show ¬ cap = K by omega, add5]
  intro h; omega
/-- l[1:], of one, with no room behind it. -/
theorem run_slice_last (g : Nat) (w : World) : (Instr.slice 27 (.slice (some ⟨g, 0, none⟩) 1 1) (some (.int .i64 1)) none none).run Try.prog w = .ok (.slice (some ⟨g, 0, none⟩) 0 0) w := by
  unfold Instr.slice Instr.sliceBounds Instr.sliceBound
  simp [run_underlying Try.underlying27, asIntOf]
/-- l[:k]. -/
theorem run_slice_to (g T cap K : Nat) (w : World) (h2 : K < cap) : (Instr.slice 27 (.slice (some ⟨g, 0, none⟩) T cap) none (some (.int .i64 (K : Int))) none).run Try.prog w = .ok (.slice (some ⟨g, 0, none⟩) K cap) w := by
  unfold Instr.slice Instr.sliceBounds Instr.sliceBound
  simp [run_underlying Try.underlying27, asIntOf, show ¬ cap = 0 by omega]
  rw [if_pos (by omega), show (⟨g, 0, none⟩ : Addr).add 0 = ⟨g, 0, none⟩ from by simp [Addr.add]]
end Go.Proofs.Ytccbhghpghijiaa
