/- A frame's text, plain: what is printed is read. No program in sight. -/
import Derived.Test.YtckadkobgmnoeaaDoorFpO
import Derived.Lib.IndexLaws
import Derived.Lib.ItoaMem
namespace Go.Proofs.YtckadkobgmnoeaaDoor

def ofL (l : List UInt8) : ByteArray := ⟨l.toArray⟩
theorem ofL_list (l : List UInt8) : (ofL l).data.toList = l := by simp [ofL]
theorem ofL_size (l : List UInt8) : (ofL l).size = l.length := by rw [Lib.size_eq, ofL_list]

/-! ### Numbers -/
theorem digit_nat (d : Nat) (h : d < 10) : (UInt8.ofNat (48 + d)).toNat = 48 + d := by rw [UInt8.toNat_ofNat']; omega
theorem parse_app : ∀ (l m : List UInt8) (acc : Nat), Lib.parseUint10 acc (l ++ m) = match Lib.parseUint10 acc l with | .ok v => Lib.parseUint10 v m | r => r
  | [], m, acc => by simp [Lib.parseUint10]
  | c :: l, m, acc => by
    rw [List.cons_append, Lib.parseUint10, Lib.parseUint10]
    split
    · split
      · rfl
      · split
        · rfl
        · exact parse_app l m _
    · rfl
theorem parse_dec : ∀ (n u : Nat), u ≤ n → u < 1000000000000 → Lib.parseUint10 0 (Lib.decDigits u) = .ok u
  | n, u, hn, hu => by
    by_cases h : u < 10
    · rw [Lib.decDigits, dif_pos h, Lib.parseUint10, digit_nat u h, if_pos (by omega), if_neg (by omega), if_neg (by omega), Lib.parseUint10]
      congr 1; omega
    · cases n with
      | zero => omega
      | succ n =>
        rw [Lib.decDigits, dif_neg h, parse_app, parse_dec n (u / 10) (by omega) (by omega)]
        show Lib.parseUint10 (u / 10) [_] = _
        rw [Lib.parseUint10, digit_nat (u % 10) (by omega), if_pos (by omega), if_neg (by omega), if_neg (by omega), Lib.parseUint10]
        congr 1; omega
theorem dec_mem : ∀ (n u : Nat), u ≤ n → ∀ b, b ∈ Lib.decDigits u → 48 ≤ b.toNat ∧ b.toNat ≤ 57
  | n, u, hn, b, hb => by
    by_cases h : u < 10
    · rw [Lib.decDigits, dif_pos h, List.mem_singleton] at hb
      subst hb
      rw [digit_nat u h]; omega
    · cases n with
      | zero => omega
      | succ n =>
        rw [Lib.decDigits, dif_neg h, List.mem_append, List.mem_singleton] at hb
        rcases hb with hb | rfl
        · exact dec_mem n (u / 10) (by omega) b hb
        · rw [digit_nat (u % 10) (by omega)]; omega
theorem dec_cons (u : Nat) : ∃ c r, Lib.decDigits u = c :: r := by
  cases h : Lib.decDigits u with
  | nil =>
    rw [Lib.decDigits] at h
    split at h <;> simp at h
  | cons c r => exact ⟨c, r, rfl⟩
theorem itoa_mem {n : Int} {b : UInt8} (h : b ∈ Lib.itoa n) : b.toNat = 45 ∨ (48 ≤ b.toNat ∧ b.toNat ≤ 57) := by
  unfold Lib.itoa at h
  split at h
  · rcases List.mem_cons.1 h with rfl | h
    · exact .inl rfl
    · exact .inr (dec_mem _ _ (Nat.le_refl _) b h)
  · exact .inr (dec_mem _ _ (Nat.le_refl _) b h)
theorem atoi_itoa (n : Int) (h1 : -100000 ≤ n) (h2 : n ≤ 100000) : Lib.atoiAll (Lib.itoa n) = .ok n := by
  by_cases hn : n < 0
  · have e : Lib.itoa n = 45 :: Lib.decDigits n.natAbs := by unfold Lib.itoa; rw [if_pos hn]
    obtain ⟨c, r, hc⟩ := dec_cons n.natAbs
    have hp := parse_dec _ n.natAbs (Nat.le_refl _) (by omega)
    rw [e]
    unfold Lib.atoiAll
    simp only
    rw [if_pos (.inr (by rfl))]
    unfold Lib.parseMag
    rw [if_neg (by rw [hc]; simp), hp]
    simp only
    rw [if_neg (by rintro ⟨h, _⟩; exact h rfl), if_neg (by rintro ⟨_, h⟩; omega), if_pos (by rfl)]
    congr 1; omega
  · have e : Lib.itoa n = Lib.decDigits n.toNat := by unfold Lib.itoa; rw [if_neg hn]
    obtain ⟨c, r, hc⟩ := dec_cons n.toNat
    have hp := parse_dec _ n.toNat (Nat.le_refl _) (by omega)
    have hm := dec_mem _ n.toNat (Nat.le_refl _) c (by rw [hc]; exact List.mem_cons_self ..)
    rw [e, hc] at *
    unfold Lib.atoiAll
    simp only
    rw [if_neg (by omega)]
    unfold Lib.parseMag
    rw [if_neg (by simp), hp]
    simp only
    rw [if_neg (by omega), if_neg (by omega), if_neg (by omega)]
    congr 1; omega
theorem intR_itoa (n : Int) (h1 : -100000 ≤ n) (h2 : n ≤ 100000) : intR (Lib.itoa n) = (n, true) := by
  unfold intR
  rw [atoi_itoa n h1 h2]
  simp

/-! ### Pieces -/
theorem occ_head {s t : List UInt8} {c : UInt8} {j : Nat} (h : Lib.occAt s (c :: t) j = true) : s[j]? = some c := by
  unfold Lib.occAt at h
  cases hd : s.drop j with
  | nil => rw [hd] at h; simp at h
  | cons x r =>
    rw [hd] at h
    have h1 : c = x := by simp at h; exact h.1
    have h2 := congrArg (·[0]?) hd
    simp at h2
    rw [h2, h1]
theorem mem_at {a : List UInt8} {j : Nat} {c : UInt8} (h : a[j]? = some c) : c ∈ a := List.mem_of_getElem? h
theorem idx_one {a b : List UInt8} {c : UInt8} (h : c ∉ a) : Lib.index (a ++ [c] ++ b) [c] = a.length := by
  refine Lib.index_first (by simp) (by simp [Lib.occAt]) fun j hj => ?_
  rw [Bool.eq_false_iff]
  intro ho
  have := occ_head ho
  rw [List.append_assoc, List.getElem?_append_left hj] at this
  exact h (mem_at this)
theorem idx_one_none {a : List UInt8} {c : UInt8} (h : c ∉ a) : Lib.index a [c] = -1 := by
  refine Lib.index_none fun j _ => ?_
  rw [Bool.eq_false_iff]
  intro ho
  exact h (mem_at (occ_head ho))
theorem idx_bar {a b : List UInt8} (h : (124 : UInt8) ∉ a) : Lib.index (a ++ [32, 124, 32] ++ b) [32, 124, 32] = a.length := by
  refine Lib.index_first (by simp) (by simp [Lib.occAt]) fun j hj => ?_
  rw [Bool.eq_false_iff]
  intro ho
  have := Lib.occAt_second rfl ho
  rw [List.append_assoc] at this
  by_cases hj2 : j + 1 < a.length
  · rw [List.getElem?_append_left hj2] at this
    exact h (mem_at this)
  · rw [List.getElem?_append_right (by omega), show j + 1 - a.length = 0 by omega] at this
    simp at this
theorem idx_bar_none {a : List UInt8} (h : (124 : UInt8) ∉ a) : Lib.index a [32, 124, 32] = -1 := by
  refine Lib.index_none fun j _ => ?_
  rw [Bool.eq_false_iff]
  intro ho
  exact h (mem_at (Lib.occAt_second rfl ho))
theorem spl_at {sep : ByteArray} {a b : List UInt8} (h1 : 1 ≤ sep.size) (hi : Lib.index (a ++ sep.data.toList ++ b) sep.data.toList = a.length) : spl sep (ofL (a ++ sep.data.toList ++ b)) = ofL a :: spl sep (ofL b) := by
  have hix : Lib.indexB (ofL (a ++ sep.data.toList ++ b)) sep = a.length := by
    show Lib.index _ _ = _
    rw [ofL_list]; exact hi
  rw [spl_hit h1 hix]
  congr 1
  · apply ByteArray.ext
    apply Array.toList_inj.1
    rw [ByteArray.data_extract, Array.toList_extract, ofL_list, ofL_list]
    show ((a ++ sep.data.toList ++ b).drop 0).take (a.length - 0) = a
    simp
  · congr 1
    apply ByteArray.ext
    apply Array.toList_inj.1
    rw [ByteArray.data_extract, Array.toList_extract, ofL_list, ofL_list, ofL_size]
    show ((a ++ sep.data.toList ++ b).drop (a.length + sep.size)).take (_ - (a.length + sep.size)) = b
    have hd : (a ++ sep.data.toList ++ b).drop (a.length + sep.size) = b := by
      have : a.length + sep.size = (a ++ sep.data.toList).length := by rw [List.length_append, Lib.size_eq]
      rw [this, List.drop_left]
    rw [hd]
    apply List.take_of_length_le
    simp only [List.length_append, Lib.size_eq]; omega
theorem spl_none {sep : ByteArray} {a : List UInt8} (hi : Lib.index a sep.data.toList = -1) : spl sep (ofL a) = [ofL a] :=
  spl_miss (show Lib.index _ _ = _ by rw [ofL_list]; exact hi)

/-! ### Singles -/
def hexC (d : Nat) : UInt8 := hexL.getD d 0
def hex8 (b : Nat) : List UInt8 := [hexC (b / 268435456 % 16), hexC (b / 16777216 % 16), hexC (b / 1048576 % 16), hexC (b / 65536 % 16), hexC (b / 4096 % 16), hexC (b / 256 % 16), hexC (b / 16 % 16), hexC (b % 16)]
theorem hexC_facts (d : Nat) (h : d < 16) : hexD (hexC d) = d ∧ hexC d ∈ hexL := by
  rcases (by omega : d = 0 ∨ d = 1 ∨ d = 2 ∨ d = 3 ∨ d = 4 ∨ d = 5 ∨ d = 6 ∨ d = 7 ∨ d = 8 ∨ d = 9 ∨ d = 10 ∨ d = 11 ∨ d = 12 ∨ d = 13 ∨ d = 14 ∨ d = 15) with rfl | rfl | rfl | rfl | rfl | rfl | rfl | rfl | rfl | rfl | rfl | rfl | rfl | rfl | rfl | rfl <;> exact ⟨by decide, by decide⟩
theorem hexF_C (b d : Nat) (l : List UInt8) (h : d < 16) : hexF b (hexC d :: l) = hexF (b * 16 + d) l := by
  rw [hexF, (hexC_facts d h).1, if_neg (by omega)]; rfl
theorem hexF_8 (b : Nat) (h : b < 4294967296) : hexF 0 (hex8 b) = some b := by
  unfold hex8
  rw [hexF_C _ _ _ (Nat.mod_lt _ (by decide)), hexF_C _ _ _ (Nat.mod_lt _ (by decide)), hexF_C _ _ _ (Nat.mod_lt _ (by decide)), hexF_C _ _ _ (Nat.mod_lt _ (by decide)), hexF_C _ _ _ (Nat.mod_lt _ (by decide)), hexF_C _ _ _ (Nat.mod_lt _ (by decide)), hexF_C _ _ _ (Nat.mod_lt _ (by decide)), hexF_C _ _ _ (Nat.mod_lt _ (by decide)), hexF]
  congr 1; omega
theorem hexR_8 (b : Nat) (h : b < 4294967296) (hc : canon b = b) : hexR (ofL (hex8 b)).data.toList = (b, 0) := by
  rw [ofL_list]
  unfold hexR
  rw [if_pos (show (hex8 b).length = 8 from rfl), hexF_8 b h]
  show hexV b = _
  unfold hexV
  rw [if_neg]
  rintro ⟨h1, h2⟩
  rw [canon_of_nan h1] at hc
  exact h2 hc.symm
theorem hex8_mem {b : Nat} {c : UInt8} (h : c ∈ hex8 b) : c ∈ hexL := by
  unfold hex8 at h
  simp only [List.mem_cons, List.not_mem_nil, or_false] at h
  rcases h with rfl | rfl | rfl | rfl | rfl | rfl | rfl | rfl <;> exact (hexC_facts _ (Nat.mod_lt _ (by decide))).2
theorem hexL_not {c : UInt8} (h : c ∈ hexL) : c ≠ 10 ∧ c ≠ 32 ∧ c ≠ 124 := by
  unfold hexL at h
  simp only [List.mem_cons, List.not_mem_nil, or_false] at h
  rcases h with rfl | rfl | rfl | rfl | rfl | rfl | rfl | rfl | rfl | rfl | rfl | rfl | rfl | rfl | rfl | rfl <;> decide
/-- A pixel's text. -/
def pixT (f : Nat → Nat) (n : Nat) : List UInt8 := hex8 (f (4 * n)) ++ [32] ++ (hex8 (f (4 * n + 1)) ++ [32] ++ (hex8 (f (4 * n + 2)) ++ [32] ++ hex8 (f (4 * n + 3))))
theorem pixT_mem {f : Nat → Nat} {n : Nat} {c : UInt8} (h : c ∈ pixT f n) : c = 32 ∨ c ∈ hexL := by
  unfold pixT at h
  simp only [List.mem_append, List.mem_singleton] at h
  rcases h with (h | h) | (h | h) | (h | h) | h
  all_goals first
    | exact .inl h
    | exact .inr (hex8_mem h)
theorem spl_pix (f : Nat → Nat) (n : Nat) : spl spB (ofL (pixT f n)) = [ofL (hex8 (f (4 * n))), ofL (hex8 (f (4 * n + 1))), ofL (hex8 (f (4 * n + 2))), ofL (hex8 (f (4 * n + 3)))] := by
  have h : ∀ b, (32 : UInt8) ∉ hex8 b := fun b hm => (hexL_not (hex8_mem hm)).2.1 rfl
  unfold pixT
  rw [show ([32] : List UInt8) = spB.data.toList from rfl, spl_at (by decide) (idx_one (h _)), spl_at (by decide) (idx_one (h _)), spl_at (by decide) (idx_one (h _)), spl_none (idx_one_none (h _))]
def GoodF (f : Nat → Nat) : Prop := ∀ k, f k < 4294967296 ∧ canon (f k) = f k
def pixUV (f : Nat → Nat) (n : Nat) : List (Nat × Int) := [(f (4 * n), 0), (f (4 * n + 1), 0), (f (4 * n + 2), 0), (f (4 * n + 3), 0)]
theorem words_pix {f : Nat → Nat} (hf : GoodF f) (n : Nat) : wordsV (spl spB (ofL (pixT f n))) = some (pixUV f n) := by
  have h : ∀ k, hexR (ofL (hex8 (f k))).data.toList = (f k, 0) := fun k => hexR_8 _ (hf k).1 (hf k).2
  rw [spl_pix]
  simp only [wordsV]
  rw [h, h, h, h]
  rfl

/-! ### Rows -/
/-- n pixels from m on, each with a bar behind it; then one more. -/
def rowT (f : Nat → Nat) (m : Nat) : Nat → List UInt8
  | 0 => pixT f m
  | n + 1 => pixT f m ++ [32, 124, 32] ++ rowT f (m + 1) n
def rowPix (f : Nat → Nat) (m : Nat) : Nat → List (Nat × Int)
  | 0 => pixUV f m
  | n + 1 => pixUV f m ++ rowPix f (m + 1) n
theorem rowT_mem {f : Nat → Nat} {c : UInt8} : ∀ {m n : Nat}, c ∈ rowT f m n → c = 32 ∨ c = 124 ∨ c ∈ hexL
  | m, 0, h => by
    rcases pixT_mem h with h | h
    · exact .inl h
    · exact .inr (.inr h)
  | m, n + 1, h => by
    rw [rowT] at h
    simp only [List.mem_append, List.mem_cons, List.not_mem_nil, or_false] at h
    rcases h with (h | h | h | h) | h
    · rcases pixT_mem h with h | h
      · exact .inl h
      · exact .inr (.inr h)
    · exact .inl h
    · exact .inr (.inl h)
    · exact .inl h
    · exact rowT_mem h
theorem pix_nobar (f : Nat → Nat) (n : Nat) : (124 : UInt8) ∉ pixT f n := fun h => by
  rcases pixT_mem h with h | h
  · revert h; decide
  · exact (hexL_not h).2.2 rfl
theorem row_split (f : Nat → Nat) : ∀ (n m : Nat), spl barB (ofL (rowT f m n)) = (List.range (n + 1)).map fun p => ofL (pixT f (m + p))
  | 0, m => by
    rw [rowT, spl_none (sep := barB) (idx_bar_none (pix_nobar f m))]
    rfl
  | n + 1, m => by
    rw [rowT, show ([32, 124, 32] : List UInt8) = barB.data.toList from rfl, spl_at (by decide) (idx_bar (pix_nobar f m)), row_split f n (m + 1), List.range_succ_eq_map (n := n + 1), List.map_cons, List.map_map]
    congr 1
    apply List.map_congr_left
    intro p _
    show ofL (pixT f (m + 1 + p)) = ofL (pixT f (m + (p + 1)))
    congr 2; omega
theorem row_read {f : Nat → Nat} (hf : GoodF f) : ∀ (n m : Nat), rowV ((List.range (n + 1)).map fun p => ofL (pixT f (m + p))) = some (rowPix f m n)
  | 0, m => by
    show rowV [ofL (pixT f (m + 0))] = _
    rw [rowV, if_pos (by rw [spl_pix]; rfl), words_pix hf]
    simp [rowV, rowPix]
  | n + 1, m => by
    have hmap : (List.range (n + 1 + 1)).map (fun p => ofL (pixT f (m + p))) = ofL (pixT f m) :: (List.range (n + 1)).map fun p => ofL (pixT f (m + 1 + p)) := by
      rw [List.range_succ_eq_map (n := n + 1), List.map_cons, List.map_map]
      congr 1
      apply List.map_congr_left
      intro p _
      show ofL (pixT f (m + (p + 1))) = _
      congr 2; omega
    rw [hmap, rowV, if_pos (by rw [spl_pix]; rfl), words_pix hf, row_read hf n (m + 1)]
    rfl
theorem worst_zero : ∀ (us : List (Nat × Int)), (∀ u, u ∈ us → u.2 = 0) → worst 0 us = 0
  | [], _ => rfl
  | u :: us, h => by
    unfold worst
    rw [List.foldl_cons, if_pos (h u (List.mem_cons_self ..))]
    exact worst_zero us fun v hv => h v (List.mem_cons_of_mem _ hv)
theorem rowPix_zero {f : Nat → Nat} : ∀ {n m : Nat} {u : Nat × Int}, u ∈ rowPix f m n → u.2 = 0
  | 0, m, u, h => by
    simp only [rowPix, pixUV, List.mem_cons, List.not_mem_nil, or_false] at h
    rcases h with rfl | rfl | rfl | rfl <;> rfl
  | n + 1, m, u, h => by
    rw [rowPix, List.mem_append] at h
    rcases h with h | h
    · simp only [pixUV, List.mem_cons, List.not_mem_nil, or_false] at h
      rcases h with rfl | rfl | rfl | rfl <;> rfl
    · exact rowPix_zero h
theorem rowPix_vals (f : Nat → Nat) : ∀ (n m : Nat), (rowPix f m n).map (·.1) = (List.range (4 * (n + 1))).map fun k => f (4 * m + k)
  | 0, m => rfl
  | n + 1, m => by
    rw [rowPix, List.map_append, rowPix_vals f n (m + 1), show 4 * (n + 1 + 1) = 4 + 4 * (n + 1) by omega, List.range_add, List.map_append, List.map_map]
    congr 1
    apply List.map_congr_left
    intro k _
    show f (4 * (m + 1) + k) = f (4 * m + (4 + k))
    congr 1; omega
/-- A row of n + 1 pixels is read. -/
theorem row_back {f : Nat → Nat} (hf : GoodF f) (n m : Nat) : rowR (ofL (rowT f m n)) ((n + 1 : Nat) : Int) = ((List.range (4 * (n + 1))).map fun k => f (4 * m + k), 0) := by
  unfold rowR
  rw [row_split, if_pos (by simp), row_read hf]
  show ((rowPix f m n).map (·.1), worst 0 (rowPix f m n)) = _
  rw [rowPix_vals, worst_zero _ fun u hu => rowPix_zero hu]

/-! ### The whole -/
/-- h rows of n + 1 pixels, from pixel m on. -/
def rowsT (f : Nat → Nat) (n : Nat) : Nat → Nat → List UInt8
  | _, 0 => []
  | m, h + 1 => rowT f m n ++ [10] ++ rowsT f n (m + (n + 1)) h
theorem row_nonl (f : Nat → Nat) (m n : Nat) : (10 : UInt8) ∉ rowT f m n := fun h => by
  rcases rowT_mem h with h | h | h
  · revert h; decide
  · revert h; decide
  · exact (hexL_not h).1 rfl
theorem rows_back {f : Nat → Nat} (hf : GoodF f) (n : Nat) : ∀ (h m k : Nat) (acc : List Nat), rowsP ((n + 1 : Nat) : Int) h k (spl nlB (ofL (rowsT f n m h))) acc = (acc ++ (List.range (4 * (n + 1) * h)).map fun j => f (4 * m + j), 0, 0)
  | 0, m, k, acc => by
    rw [rowsT, show ofL [] = noB from rfl, (spl_empty (T := noB)).2 rfl]
    simp [rowsP]
  | h + 1, m, k, acc => by
    rw [rowsT, show ([10] : List UInt8) = nlB.data.toList from rfl, spl_at (by decide) (idx_one (row_nonl f m n))]
    obtain ⟨a, r, har⟩ := spl_cons nlB (ofL (rowsT f n (m + (n + 1)) h)) (by decide)
    have ih := rows_back hf n h (m + (n + 1)) (k + 1) (acc ++ (List.range (4 * (n + 1))).map fun j => f (4 * m + j))
    rw [har] at ih ⊢
    simp only [rowsP]
    rw [row_back hf, if_pos rfl, ih, List.append_assoc]
    congr 2
    rw [show 4 * (n + 1) * (h + 1) = 4 * (n + 1) + 4 * (n + 1) * h by rw [Nat.mul_succ]; omega, List.range_add, List.map_append, List.map_map]
    congr 1
    apply List.map_congr_left
    intro j _
    show f (4 * (m + (n + 1)) + j) = f (4 * m + (4 * (n + 1) + j))
    congr 1; omega
def headT (x y w h : Int) : List UInt8 := frameB.data.toList ++ [32] ++ (Lib.itoa x ++ [32] ++ (Lib.itoa y ++ [32] ++ (Lib.itoa w ++ [32] ++ Lib.itoa h)))
theorem itoa_no (n : Int) (c : UInt8) (h1 : c.toNat ≠ 45) (h2 : c.toNat < 48 ∨ 57 < c.toNat) : c ∉ Lib.itoa n := fun h => by
  rcases itoa_mem h with h | h <;> omega
theorem head_split (x y w h : Int) : spl spB (ofL (headT x y w h)) = [frameB, ofL (Lib.itoa x), ofL (Lib.itoa y), ofL (Lib.itoa w), ofL (Lib.itoa h)] := by
  have hs : ∀ n, (32 : UInt8) ∉ Lib.itoa n := fun n => itoa_no n 32 (by decide) (by decide)
  unfold headT
  rw [show ([32] : List UInt8) = spB.data.toList from rfl, spl_at (by decide) (idx_one (by decide)), spl_at (by decide) (idx_one (hs _)), spl_at (by decide) (idx_one (hs _)), spl_at (by decide) (idx_one (hs _)), spl_none (idx_one_none (hs _))]
  rfl
theorem head_nonl (x y w h : Int) : (10 : UInt8) ∉ headT x y w h := fun hm => by
  have hs : ∀ n, (10 : UInt8) ∉ Lib.itoa n := fun n => itoa_no n 10 (by decide) (by decide)
  unfold headT at hm
  simp only [List.mem_append, List.mem_singleton] at hm
  rcases hm with (hm | hm) | (hm | hm) | (hm | hm) | (hm | hm) | hm
  · revert hm; decide
  · revert hm; decide
  · exact hs _ hm
  · revert hm; decide
  · exact hs _ hm
  · revert hm; decide
  · exact hs _ hm
  · revert hm; decide
  · exact hs _ hm
/-- What is printed is read. -/
theorem print_back {f : Nat → Nat} (hf : GoodF f) (x y : Int) (n h : Nat) (hx : -1000 ≤ x ∧ x ≤ 1000) (hy : -1000 ≤ y ∧ y ≤ 1000) (hn : n + 1 ≤ 8) (hh : 1 ≤ h) (hh2 : h ≤ 8) (hsz : (headT x y ((n + 1 : Nat) : Int) (h : Int) ++ [10] ++ rowsT f n 0 h).length ≤ 1048576) :
    parseR (ofL (headT x y ((n + 1 : Nat) : Int) (h : Int) ++ [10] ++ rowsT f n 0 h)) = ⟨x, y, ((n + 1 : Nat) : Int), (h : Int), (List.range (4 * (n + 1) * h)).map f, 0, 0⟩ := by
  unfold parseR
  rw [if_neg (by rw [ofL_size]; omega), show ([10] : List UInt8) = nlB.data.toList from rfl, spl_at (by decide) (idx_one (head_nonl _ _ _ _))]
  obtain ⟨a, r, har⟩ := spl_cons nlB (ofL (rowsT f n 0 h)) (by decide)
  have hb := rows_back hf n h 0 1 []
  rw [har] at hb ⊢
  simp only [parseL]
  rw [head_split]
  have hi : ∀ m : Int, -1000 ≤ m → m ≤ 1000 → intR (ofL (Lib.itoa m)).data.toList = (m, true) := fun m h1 h2 => by
    rw [ofL_list]; exact intR_itoa m (by omega) (by omega)
  have hhd : headL [frameB, ofL (Lib.itoa x), ofL (Lib.itoa y), ofL (Lib.itoa ((n + 1 : Nat) : Int)), ofL (Lib.itoa (h : Int))] = some (x, y, ((n + 1 : Nat) : Int), (h : Int)) := by
    simp only [headL]
    rw [hi x hx.1 hx.2, hi y hy.1 hy.2, hi _ (by omega) (by omega), hi _ (by omega) (by omega)]
    simp
  have hck : checkRegion x y ((n + 1 : Nat) : Int) (h : Int) = 0 := by
    unfold checkRegion
    have hm : ((n + 1 : Nat) : Int) * (h : Int) ≤ 64 := by
      have : (n + 1) * h ≤ 8 * 8 := Nat.mul_le_mul hn hh2
      have e : ((n + 1 : Nat) : Int) * (h : Int) = (((n + 1) * h : Nat) : Int) := by push_cast; rfl
      rw [e]; omega
    rw [if_neg (by omega), if_neg (by omega), if_neg]
    unfold outB
    simp only [Bool.or_eq_true, decide_eq_true_eq, not_or]
    omega
  rw [hhd]
  simp only
  rw [hck, if_pos rfl, Int.toNat_natCast, hb]
  simp
end Go.Proofs.YtckadkobgmnoeaaDoor
