/- (*strings.byteStringReplacer).Replace: the text with what stands for each byte. (printed by gen_wds.py) -/
import Derived.Test.YtojieeenbbgpdaaWdQ
namespace Go.Proofs.Ytojieeenbbgpdaa
open Go.RowKit

def nsp (l : List UInt8) : Nat := (l.filter fun c => decide (c ∈ doneL)).length
theorem escB_one {c : UInt8} (h : c ∉ doneL) : escB c = [c] := by
  unfold escB
  rw [if_neg (by rintro rfl; exact h (by decide)), if_neg (by rintro rfl; exact h (by decide)), if_neg (by rintro rfl; exact h (by decide))]
theorem escB_two {c : UInt8} (h : c ∈ doneL) : ∃ e1 e2, escB c = [e1, e2] := by
  simp only [doneL, List.mem_cons, List.not_mem_nil, or_false] at h
  rcases h with rfl | rfl | rfl
  · exact ⟨_, _, rfl⟩
  · exact ⟨_, _, rfl⟩
  · exact ⟨_, _, rfl⟩
theorem esc_app (a b : List UInt8) : esc (a ++ b) = esc a ++ esc b := by unfold esc; rw [List.flatMap_append]
theorem esc_one (c : UInt8) : esc [c] = escB c := by unfold esc; simp
theorem nsp_cons (c : UInt8) (l : List UInt8) : nsp (c :: l) = (if c ∈ doneL then 1 else 0) + nsp l := by
  unfold nsp
  rw [List.filter_cons]
  by_cases h : c ∈ doneL
  · rw [if_pos (by simpa using h), if_pos h, List.length_cons]; omega
  · rw [if_neg (by simpa using h), if_neg h]; omega
theorem esc_len : ∀ l : List UInt8, (esc l).length = l.length + nsp l
  | [] => rfl
  | c :: l => by
    have h : esc (c :: l) = escB c ++ esc l := by rw [← List.singleton_append, esc_app, esc_one]
    rw [h, List.length_append, esc_len l, nsp_cons, List.length_cons]
    by_cases hd : c ∈ doneL
    · obtain ⟨e1, e2, he⟩ := escB_two hd
      rw [he, if_pos hd]; simp; omega
    · rw [escB_one hd, if_neg hd]; simp; omega
theorem nsp_le (l : List UInt8) : nsp l ≤ l.length := List.length_filter_le _ _
theorem esc_same : ∀ {l : List UInt8}, nsp l = 0 → esc l = l
  | [], _ => rfl
  | c :: l, h => by
    rw [nsp_cons] at h
    by_cases hd : c ∈ doneL
    · rw [if_pos hd] at h; omega
    · rw [← List.singleton_append, esc_app, esc_one, escB_one hd, esc_same (by omega)]
theorem esc_take_le (l : List UInt8) (k : Nat) : (esc (l.take k)).length ≤ (esc l).length := by
  conv => rhs; rw [← List.take_append_drop k l, esc_app]
  rw [List.length_append]; omega
theorem nsp_count (l : List UInt8) : nsp l = l.count 10 + l.count 34 + l.count 92 := by
  induction l with
  | nil => rfl
  | cons c l ih =>
    rw [nsp_cons, ih, List.count_cons, List.count_cons, List.count_cons]
    by_cases h1 : c = 10
    · subst h1; rw [if_pos (by decide), if_pos (by decide), if_neg (by decide), if_neg (by decide)]; omega
    by_cases h2 : c = 34
    · subst h2; rw [if_pos (by decide), if_neg (by decide), if_pos (by decide), if_neg (by decide)]; omega
    by_cases h3 : c = 92
    · subst h3; rw [if_pos (by decide), if_neg (by decide), if_neg (by decide), if_pos (by decide)]; omega
    rw [if_neg (by simp [doneL, h1, h2, h3]), if_neg (by simpa using h1), if_neg (by simpa using h2), if_neg (by simpa using h3)]; omega
theorem nsp_app (a b : List UInt8) : nsp (a ++ b) = nsp a + nsp b := by unfold nsp; rw [List.filter_append, List.length_append]
theorem rv_ne {B G g : Nat} {w : World} {C : Array Value} (_h : RepB B G w 3 C) (hg : G + 1 < g) : True := trivial
def RvLt (g : Nat) (C : Array Value) (D : List UInt8) : Prop := ∀ c : UInt8, c ∈ D → ∃ v b k, C[c.toNat]? = some v ∧ v = .slice (some ⟨b, 0, none⟩) 2 k ∧ b < g
theorem rvlt_of {B G g : Nat} {w : World} {C : Array Value} (h : RepB B G w 3 C) (hg : ∀ b : Nat, b < w.heap.size → b < g) : RvLt g C (doneL.take 3) := by
  intro c hc
  have := h.2.2.2.2 c
  rw [if_pos hc] at this
  obtain ⟨v, h1, b, k, fz, cs, h2, h3, h4, h5⟩ := this
  exact ⟨v, b, k, h1, h2, hg b (Array.getElem?_eq_some_iff.1 h4).1⟩
theorem rv_some {B G : Nat} {w : World} {C : Array Value} (h : RepB B G w 3 C) {c : UInt8} (hc : c ∈ doneL) : ∃ v, C[c.toNat]? = some v ∧ RvOk (G + 2) w c v := by
  have := h.2.2.2.2 c
  rw [if_pos (show c ∈ doneL.take 3 from hc)] at this
  exact this
theorem rv_none {B G : Nat} {w : World} {C : Array Value} (h : RepB B G w 3 C) {c : UInt8} (hc : c ∉ doneL) : C[c.toNat]? = some (.slice none 0 0) := by
  have := h.2.2.2.2 c
  rw [if_neg (show c ∉ doneL.take 3 from hc)] at this
  exact this
theorem own_cell {w : World} {B g n c j : Nat} {T : TypeId} {xs : List Value} {v : Value} (h : w.ownsRow B T 1 (.slice (some ⟨g, 0, none⟩) n c) n xs) (hv : xs[j]? = some v) : w.cell? ⟨g, j, none⟩ = some v := by
  rcases h.2 with ⟨h0, _⟩ | ⟨g1, cap, cur, e1, e2, e3, e4, e5, e6, e7⟩
  · cases h0
  · have : g1 = g := by simp at e1; exact e1.1.symm
    subst this
    rw [Lib.cell_of_heap e3]
    rw [← e7, List.getElem?_take] at hv
    split at hv
    · simpa using hv
    · cases hv
theorem rep_put {B G g j : Nat} {w : World} {C : Array Value} {v : Value} (h : RepB B G w 3 C) (hg : G + 1 < g) (hl : RvLt g C (doneL.take 3)) : RepB B G (w.setCell ⟨g, j, none⟩ v) 3 C := by
  obtain ⟨h1, h2, h3, h4, h5⟩ := h
  refine ⟨h1.other _ _ (by dsimp only; omega), h2, h3, own_put h4 (by omega), fun c => ?_⟩
  have := h5 c
  by_cases hc : c ∈ doneL.take 3
  · rw [if_pos hc] at this
    rw [if_pos hc]
    obtain ⟨v', e1, b, k, fz, cs, e2, e3, e4, e5⟩ := this
    obtain ⟨v2, b2, k2, f1, f2, f3⟩ := hl c hc
    have hbg : b ≠ g := by
      rw [e1] at f1
      cases f1
      rw [e2] at f2
      simp at f2
      rw [f2.1]; omega
    exact ⟨v', e1, b, k, fz, cs, e2, e3, by rw [Below.heap_setCell _ _ _ _ (by dsimp only; omega)]; exact e4, e5⟩
  · rw [if_neg hc] at this
    rw [if_neg hc]; exact this
theorem put_one {j : Nat} {l l' : List UInt8} {c : UInt8} {cs : Array Value} (hj : j = (esc l).length) (hc : ∀ (m : Nat) (x : UInt8), (esc l)[m]? = some x → cs[m]? = some (byV x)) (hs : esc l' = esc l ++ [c]) (hl : j < cs.size) : ∀ (m : Nat) (x : UInt8), (esc l')[m]? = some x → (cs.setIfInBounds j (byV c))[m]? = some (byV x) := by
  intro m x hx
  rw [hs] at hx
  by_cases hm : m < j
  · rw [List.getElem?_append_left (by omega)] at hx
    rw [Array.getElem?_setIfInBounds_ne (by omega)]; exact hc m x hx
  · rw [List.getElem?_append_right (by omega)] at hx
    have : m - (esc l).length = 0 := by have := (List.getElem?_eq_some_iff.1 hx).1; simpa using this
    have hmj : m = j := by omega
    subst hmj
    rw [this] at hx
    cases hx
    rw [Array.getElem?_setIfInBounds_self_of_lt hl]

theorem put_two {j : Nat} {l l' : List UInt8} {e1 e2 : UInt8} {cs : Array Value} (hj : j = (esc l).length) (hc : ∀ (m : Nat) (x : UInt8), (esc l)[m]? = some x → cs[m]? = some (byV x)) (hs : esc l' = esc l ++ [e1, e2]) (hl : j + 1 < cs.size) : ∀ (m : Nat) (x : UInt8), (esc l')[m]? = some x → ((cs.setIfInBounds j (byV e1)).setIfInBounds (j + 1) (byV e2))[m]? = some (byV x) := by
  intro m x hx
  rw [hs] at hx
  by_cases hm : m < j
  · rw [List.getElem?_append_left (by omega)] at hx
    rw [Array.getElem?_setIfInBounds_ne (by omega), Array.getElem?_setIfInBounds_ne (by omega)]; exact hc m x hx
  · rw [List.getElem?_append_right (by omega)] at hx
    have : m - (esc l).length < 2 := (List.getElem?_eq_some_iff.1 hx).1
    rcases (by omega : m = j ∨ m = j + 1) with rfl | rfl
    · rw [show m - (esc l).length = 0 by omega] at hx
      cases hx
      rw [Array.getElem?_setIfInBounds_ne (by omega), Array.getElem?_setIfInBounds_self_of_lt (by omega)]
    · rw [show j + 1 - (esc l).length = 1 by omega] at hx
      cases hx
      rw [Array.getElem?_setIfInBounds_self_of_lt (by simpa using hl)]

set_option maxRecDepth 100000 in
set_option maxHeartbeats 16000000 in
theorem bsr_Replace (G : Nat) (s : ByteArray) (C : Array Value) (W : World) (hR : RepB 0 G W 3 C) (hs : s.size ≤ 140737488355328) : Calls Try.prog 96 #[.pointer (some ⟨G + 1, 0, none⟩), .string s] W fun e w' => e = .returned (.string ⟨(esc s.data.toList).toArray⟩) ∧ Below W.heap.size W w' := by
  obtain ⟨qW, fW, lW⟩ := hR.1.all
  have p256 : W.cell? ⟨G + 1, 256, none⟩ = some (.slice (some ⟨G, 0, none⟩) 3 3) := (qW 256).trans hR.2.2.1
  have B := Below.refl W.heap.size W
  clear qW
  obtain ⟨Res, hRes⟩ : ∃ Res, (⟨(esc s.data.toList).toArray⟩ : ByteArray) = Res := ⟨_, rfl⟩
  rw [hRes]
  have HRes := Lib.hid hRes
  clear hRes
  by_cases h24 : 24 ≤ s.size
  · have hA : decide ((24 : Int) ≤ (s.size : Int)) = true := decide_eq_true (by omega)
    have g0 : W.cell? ⟨G, 0, none⟩ = some (.string ⟨#[10]⟩) := own_cell hR.2.2.2.1 rfl
    have g1 : W.cell? ⟨G, 1, none⟩ = some (.string ⟨#[34]⟩) := own_cell hR.2.2.2.1 rfl
    have g2 : W.cell? ⟨G, 2, none⟩ = some (.string ⟨#[92]⟩) := own_cell hR.2.2.2.1 rfl
    obtain ⟨n0, hn0⟩ : ∃ n, Lib.countByte s.data.toList 10 = n := ⟨_, rfl⟩
    obtain ⟨n1, hn1⟩ : ∃ n, Lib.countByte s.data.toList 34 = n := ⟨_, rfl⟩
    obtain ⟨n2, hn2⟩ : ∃ n, Lib.countByte s.data.toList 92 = n := ⟨_, rfl⟩
    have hns : nsp s.data.toList = n0 + n1 + n2 := by rw [nsp_count, ← hn0, ← hn1, ← hn2]; rfl
    have hnl : n0 + n1 + n2 ≤ s.size := by rw [← hns, Lib.size_eq]; exact nsp_le _
    go_enter Try.func96, Try.ntmps96
    go_wp2_with fail
    go_loopw [5, 6, 32] (fun nv bv kv wr => ∃ (i : Int) (n : Nat) (b : Bool), nv = .int .i64 ((s.size : Int) + (n : Int)) ∧ bv = .bool b ∧ kv = .int .i64 i ∧ Hid (b = decide (n ≠ 0)) ∧ (i = 0 ∧ Hid (n = 0) ∨ i = 1 ∧ Hid (n = n0) ∨ i = 2 ∧ Hid (n = n0 + n1) ∨ i = 3 ∧ Hid (n = n0 + n1 + n2)) ∧ ∃ m, wr = W.drewN m) (fun _ _ kv _ => 3 - (intOf kv).toNat)
    case atStart => exact ⟨0, 0, false, by go_num, rfl, rfl, Lib.hid rfl, .inl ⟨rfl, Lib.hid rfl⟩, 0, rfl⟩
    case round =>
      obtain ⟨i, n, b, rfl, rfl, rfl, Hb, hin, m, rfl⟩ := hrel
      rcases hin with ⟨rfl, Hn⟩ | ⟨rfl, Hn⟩ | ⟨rfl, Hn⟩ | ⟨rfl, Hn⟩
      · have hle : n + n0 ≤ s.size := by rw [Hn.out]; omega
        have HN : Hid (n + n0 = n0) := Lib.hid (by rw [Hn.out]; exact Nat.zero_add _)
        clear Hn
        obtain ⟨v, hv, bb, kk, fz, bs, rfl, hbb, hbh, hbx⟩ := rv_some hR (show (10 : UInt8) ∈ doneL by decide)
        have pc : W.cell? ⟨G + 1, 10, none⟩ = some (.slice (some ⟨bb, 0, none⟩) 2 kk) := (hR.1.all.1 _).trans hv
        have hby : (⟨#[10]⟩ : ByteArray)[0].toNat = 10 := rfl
        clear hbx hbh hv hbb
        by_cases hz : n0 = 0
        · have hb : ((n0 : Nat) : Int) = 0 := by omega
          have hb2 : (((n0 : Nat) : Int) != 0) = false := by rw [hb]; rfl
          clear hb
          go_wp2_with (go_at_call 98; refine (Try.strings_Count_one s 10 _).mono ?_; rintro e w1 ⟨rfl, hw⟩; rw [hw, hn0]; clear hw)
          go_roundw
          case rel => exact ⟨_, n, b, rfl, rfl, by rfl, Hb, .inr (.inl ⟨rfl, Lib.hid (HN.out ▸ (by omega))⟩), _, rfl⟩
          case measure => simp [intOf]
        · have hb : (((n0 : Nat) : Int) != 0) = true := by simpa using hz
          go_upto_region 9 with (go_at_call 98; refine (Try.strings_Count_one s 10 _).mono ?_; rintro e w1 ⟨rfl, hw⟩; rw [hw, hn0]; clear hw)
          go_quiet (fail)
          go_wp2_with fail
          go_roundw
          case rel => exact ⟨_, n + n0, true, by go_num, rfl, rfl, Lib.hid (by simp; omega), .inr (.inl ⟨rfl, HN⟩), _, rfl⟩
          case measure => simp [intOf]
      · have hle : n + n1 ≤ s.size := by rw [Hn.out]; omega
        have HN : Hid (n + n1 = n0 + n1) := Lib.hid (by rw [Hn.out])
        clear Hn
        obtain ⟨v, hv, bb, kk, fz, bs, rfl, hbb, hbh, hbx⟩ := rv_some hR (show (34 : UInt8) ∈ doneL by decide)
        have pc : W.cell? ⟨G + 1, 34, none⟩ = some (.slice (some ⟨bb, 0, none⟩) 2 kk) := (hR.1.all.1 _).trans hv
        have hby : (⟨#[34]⟩ : ByteArray)[0].toNat = 34 := rfl
        clear hbx hbh hv hbb
        by_cases hz : n1 = 0
        · have hb : ((n1 : Nat) : Int) = 0 := by omega
          have hb2 : (((n1 : Nat) : Int) != 0) = false := by rw [hb]; rfl
          clear hb
          go_wp2_with (go_at_call 98; refine (Try.strings_Count_one s 34 _).mono ?_; rintro e w1 ⟨rfl, hw⟩; rw [hw, hn1]; clear hw)
          go_roundw
          case rel => exact ⟨_, n, b, rfl, rfl, by rfl, Hb, .inr (.inr (.inl ⟨rfl, Lib.hid (HN.out ▸ (by omega))⟩)), _, rfl⟩
          case measure => simp [intOf]
        · have hb : (((n1 : Nat) : Int) != 0) = true := by simpa using hz
          go_upto_region 9 with (go_at_call 98; refine (Try.strings_Count_one s 34 _).mono ?_; rintro e w1 ⟨rfl, hw⟩; rw [hw, hn1]; clear hw)
          go_quiet (fail)
          go_wp2_with fail
          go_roundw
          case rel => exact ⟨_, n + n1, true, by go_num, rfl, rfl, Lib.hid (by simp; omega), .inr (.inr (.inl ⟨rfl, HN⟩)), _, rfl⟩
          case measure => simp [intOf]
      · have hle : n + n2 ≤ s.size := by rw [Hn.out]; omega
        have HN : Hid (n + n2 = n0 + n1 + n2) := Lib.hid (by rw [Hn.out])
        clear Hn
        obtain ⟨v, hv, bb, kk, fz, bs, rfl, hbb, hbh, hbx⟩ := rv_some hR (show (92 : UInt8) ∈ doneL by decide)
        have pc : W.cell? ⟨G + 1, 92, none⟩ = some (.slice (some ⟨bb, 0, none⟩) 2 kk) := (hR.1.all.1 _).trans hv
        have hby : (⟨#[92]⟩ : ByteArray)[0].toNat = 92 := rfl
        clear hbx hbh hv hbb
        by_cases hz : n2 = 0
        · have hb : ((n2 : Nat) : Int) = 0 := by omega
          have hb2 : (((n2 : Nat) : Int) != 0) = false := by rw [hb]; rfl
          clear hb
          go_wp2_with (go_at_call 98; refine (Try.strings_Count_one s 92 _).mono ?_; rintro e w1 ⟨rfl, hw⟩; rw [hw, hn2]; clear hw)
          go_roundw
          case rel => exact ⟨_, n, b, rfl, rfl, by rfl, Hb, .inr (.inr (.inr ⟨rfl, Lib.hid (HN.out ▸ (by omega))⟩)), _, rfl⟩
          case measure => simp [intOf]
        · have hb : (((n2 : Nat) : Int) != 0) = true := by simpa using hz
          go_upto_region 9 with (go_at_call 98; refine (Try.strings_Count_one s 92 _).mono ?_; rintro e w1 ⟨rfl, hw⟩; rw [hw, hn2]; clear hw)
          go_quiet (fail)
          go_wp2_with fail
          go_roundw
          case rel => exact ⟨_, n + n2, true, by go_num, rfl, rfl, Lib.hid (by simp; omega), .inr (.inr (.inr ⟨rfl, HN⟩)), _, rfl⟩
          case measure => simp [intOf]
      · have hnn : n = nsp s.data.toList := by rw [hns]; exact Hn.out
        subst hnn
        replace B : Below W.heap.size W (W.drewN m) := below_drewN B m
        replace hR : RepB 0 G (W.drewN m) 3 C := hR.keep fun _ _ _ => rfl
        clear hns hnl hn0 hn1 hn2 g0 g1 g2 p256 Hn
        cases b
        · have hb := Hb.out
          have h0 : nsp s.data.toList = 0 := by
            by_cases h : nsp s.data.toList = 0
            · exact h
            · rw [decide_eq_true h] at hb; cases hb
          have he : (⟨(esc s.data.toList).toArray⟩ : ByteArray) = s := by rw [esc_same h0, bytes_list]
          have hres := HRes.out
          rw [he] at hres
          subst hres
          clear he h0 hb Hb
          go_wp2_with fail
          go_ret
          exact ⟨rfl, B⟩
        · obtain ⟨N, hN⟩ : ∃ N, (esc s.data.toList).length = N := ⟨_, rfl⟩
          have hN2 : N = s.size + nsp s.data.toList := by rw [← hN, esc_len, ← Lib.size_eq]
          have hNb : nsp s.data.toList ≤ s.size := by rw [Lib.size_eq]; exact nsp_le _
          have hNl : N ≤ 281474976710656 := by omega
          rw [show ((s.size : Nat) : Int) + (nsp s.data.toList : Nat) = (N : Int) by omega]
          clear hN2 hNb Hb
          obtain ⟨i0, hi, hz0, hzz, hz2⟩ := info_parts infoU
          go_upto_region 21 with fail
          refine name_world ?_
          intro w3 hw3
          rw [← hw3] at B hR
          clear hw3
          have hmk := run_make (P := Try.prog) w3 57 5 i0 (.int .u8 0) Try.underlying57 hi hz0 .i64 .i64 (N : Int) (N : Int) (by omega) (Int.le_refl _) (by rw [hz2]; omega) (by omega)
          rw [hzz, show Int.toNat (N : Int) * 1 = N by omega, show Int.toNat (N : Int) = N by omega] at hmk
          obtain ⟨M, hM⟩ : ∃ M, madeCells (Value.int .u8 0).cells N = M := ⟨_, rfl⟩
          have hMs : M.size = N := by rw [← hM]; exact size_madeCells _ _
          rw [hM] at hmk
          clear hM hi hz0 hzz hz2
          go_wp2_with fail
          refine name_world ?_
          intro w4 hw4
          obtain ⟨g, hg⟩ : ∃ g, g = w3.heap.size := ⟨_, rfl⟩
          have x4 : Bx w4 g 5 M := by rw [hw4]; exact Bx.at _ hg.symm
          have hR4 : RepB 0 G w4 3 C := hR.keep fun b _ hb => by
            rw [hw4]
            show (w3.heap.push _)[b]? = _
            rw [Array.getElem?_push, if_neg (by omega)]
          have B4 : Below W.heap.size W w4 := by rw [hw4]; exact bnew B
          have hlt : (∀ b : Nat, b < w3.heap.size → b < g) ∧ W.heap.size ≤ g := ⟨fun b hb => by omega, by rw [hg]; exact B.size⟩
          have hGg : G + 1 < g := hlt.1 _ hR.1.lt
          rw [← hg]
          have HR : Hid (RvLt g C (doneL.take 3)) := Lib.hid (rvlt_of hR hlt.1)
          have hWg := hlt.2
          clear hw4 hg hlt B hR hmk
          go_loopw [13, 14] (fun jv kv wr => ∃ (k j : Nat) (cs : Array Value), jv = .int .i64 (j : Int) ∧ kv = .int .i64 (k : Int) ∧ k ≤ s.size ∧ cs.size = N ∧ Bx wr g 5 cs ∧ Hid (j = (esc (s.data.toList.take k)).length) ∧ Hid (∀ (m : Nat) (x : UInt8), (esc (s.data.toList.take k))[m]? = some x → cs[m]? = some (byV x)) ∧ RepB 0 G wr 3 C ∧ Below W.heap.size W wr) (fun _ kv _ => s.size - (intOf kv).toNat)
          case atStart => exact ⟨0, 0, M, rfl, rfl, Nat.zero_le _, hMs, x4, Lib.hid rfl, Lib.hid (fun m x h => by simp [esc] at h), hR4, B4⟩
          case round =>
            clear x4 hMs B4 hR4
            obtain ⟨k, j, cs, rfl, rfl, hk, hcs, x, Hj, Hc, hR, B⟩ := hrel
            obtain ⟨qg, fg, lg⟩ := x.all
            obtain ⟨qq, fq, lq⟩ := hR.1.all
            by_cases hlt : k < s.size
            rotate_left
            · have hd : decide ((k : Int) < (s.size : Int)) = false := decide_eq_false (by omega)
              have hkt : s.data.toList.take k = s.data.toList := List.take_of_length_le (by rw [← Lib.size_eq]; omega)
              have hcv := run_convert_bytes_back (P := Try.prog) wr 57 9 5 ⟨g, 0, none⟩ N (esc s.data.toList) Try.underlying57 Try.underlying5 Try.underlying9 (fun m hm => by
                rw [show ((⟨g, 0, none⟩ : Addr).add m) = ⟨g, m, none⟩ by simp [Addr.add]; intro e; exact e.symm, qg m]
                have hh := Hc.out
                rw [hkt] at hh
                exact hh m _ (List.getElem?_eq_getElem hm))
              rw [hN, HRes.out] at hcv
              clear qg fg qq fq Hc hkt
              go_wp2_with fail
              go_ret
              exact ⟨rfl, B⟩
            obtain ⟨c, hc⟩ : ∃ c, s[k]'hlt = c := ⟨_, rfl⟩
            have hstep : esc (s.data.toList.take (k + 1)) = esc (s.data.toList.take k) ++ escB c := by
              rw [take_one (by rw [← Lib.size_eq]; exact hlt), esc_app, esc_one]
              rw [show s.data.toList[k]'(by rw [← Lib.size_eq]; exact hlt) = c from hc]
            have hfit : j + (escB c).length ≤ N := by
              have h1 := congrArg List.length hstep
              rw [List.length_append, ← Hj.out] at h1
              have h2 := esc_take_le s.data.toList (k + 1)
              omega
            have hc256 : c.toNat < 256 := c.toNat_lt
            by_cases hd : c ∈ doneL
            · obtain ⟨e1, e2, hesc⟩ := escB_two hd
              obtain ⟨v, hv, bb, kk, fz, bs, rfl, hbb, hbh, hbx⟩ := rv_some hR hd
              have hbg : bb < g := by
                obtain ⟨v', b', k', h1, h2, h3⟩ := HR.out c hd
                rw [hv] at h1
                cases h1
                simp at h2
                rw [h2.1]; exact h3
              have pc : wr.cell? ⟨G + 1, c.toNat, none⟩ = some (.slice (some ⟨bb, 0, none⟩) 2 kk) := (qq _).trans hv
              rw [hesc] at hbx hfit hstep
              have s0 : wr.cell? ⟨bb, 0, none⟩ = some (byV e1) := by rw [Lib.cell_of_heap hbh]; exact hbx 0 e1 rfl
              have s1 : wr.cell? ⟨bb, 1, none⟩ = some (byV e2) := by rw [Lib.cell_of_heap hbh]; exact hbx 1 e2 rfl
              have hf2 : j + 2 ≤ N := hfit
              have hn1 : ((2 : Nat) : Int) ≤ (N : Int) - (j : Int) := by omega
              clear hfit hbx hbh qq hv
              have hjN : ¬ j = N := by omega
              have hcp := run_copy_cells (P := Try.prog) wr.drew 57 57 3 5 g j (N - j) (N - j) ⟨bb, 0, none⟩ 2 kk [byV e1, byV e2] Try.underlying57 (by kernel_rfl) (by show 2 = min 2 (N - j); omega) (by
                intro m v hm
                have hm2 : m < 2 := by have := (List.getElem?_eq_some_iff.1 hm).1; simpa using this
                rcases (by omega : m = 0 ∨ m = 1) with rfl | rfl
                · simp at hm; subst hm; simpa [Addr.add] using s0
                · simp at hm; subst hm; simpa [Addr.add] using s1)
                (by
                  intro m hm
                  have hm2 : m < 2 := hm
                  have := qg (j + m)
                  rw [Array.getElem?_eq_getElem (by omega)] at this
                  show (wr.cell? _).isSome = true
                  rw [this]; rfl)
                (fun m _ => fg (j + m)) (by intro v hv; simp at hv; rcases hv with rfl | rfl <;> rfl)
              clear qg fg fq s0 s1
              go_upto_region 28 with fail
              go_region
              go_upto_region 25 with fail
              refine name_world ?_
              intro w7 hw7
              replace hw7 : w7 = (wr.drew.setCell ⟨g, j, none⟩ (byV e1)).setCell ⟨g, j + 1, none⟩ (byV e2) := hw7.trans rfl
              have x7 : Bx w7 g 5 ((cs.setIfInBounds j (byV e1)).setIfInBounds (j + 1) (byV e2)) := by rw [hw7]; exact Bx.set (Bx.set (w := wr.drew) x j _) (j + 1) _
              have hR7 : RepB 0 G w7 3 C := by rw [hw7]; exact rep_put (rep_put (hR.keep (w' := wr.drew) fun _ _ _ => rfl) hGg HR.out) hGg HR.out
              have B7 : Below W.heap.size W w7 := by rw [hw7]; exact bput (by omega) (bput (by omega) (below_drewN B 1))
              clear hw7 x hR B hcp pc
              go_wp2_with fail
              go_roundw
              case rel => exact ⟨k + 1, j + 2, _, by go_num, by go_num, by omega, by simpa using hcs, x7, Lib.hid (by rw [hstep, List.length_append, ← Hj.out]; rfl), Lib.hid (put_two Hj.out Hc.out hstep (by omega)), hR7, B7⟩
              case measure => simp [intOf]; omega
            · have hesc : escB c = [c] := escB_one hd
              have pc : wr.cell? ⟨G + 1, c.toNat, none⟩ = some (.slice none 0 0) := (qq _).trans (rv_none hR hd)
              rw [hesc] at hfit hstep
              have hf1 : j + 1 ≤ N := hfit
              have pj : (wr.cell? ⟨g, j, none⟩).isSome = true := by rw [qg j, Array.getElem?_eq_getElem (by omega)]; rfl
              obtain ⟨old, pj2⟩ := Option.isSome_iff_exists.1 pj
              have fj := fg j
              clear qg fg qq fq pj hfit
              go_upto_region 29 with fail
              go_wp2_with fail
              go_roundw
              case rel => exact ⟨k + 1, j + 1, _, by go_num, by go_num, by omega, by simpa using hcs, x.set j (byV c), Lib.hid (by rw [hstep, List.length_append, ← Hj.out]; rfl), Lib.hid (put_one Hj.out Hc.out hstep (by omega)), rep_put hR hGg HR.out, bput (by omega) B⟩
              case measure => simp [intOf]; omega
  · have hA : decide ((24 : Int) ≤ (s.size : Int)) = false := decide_eq_false (by omega)
    go_enter Try.func96, Try.ntmps96
    go_wp2_with fail
    go_loopw [5, 6, 10] (fun nv bv kv wr => ∃ (k : Nat) (b : Bool), nv = .int .i64 ((s.size : Int) + (nsp (s.data.toList.take k) : Nat)) ∧ bv = .bool b ∧ kv = .int .i64 (k : Int) ∧ k ≤ s.size ∧ Hid (b = decide (nsp (s.data.toList.take k) ≠ 0)) ∧ ∃ m, wr = W.drewN m) (fun _ _ kv _ => s.size - (intOf kv).toNat)
    case atStart => exact ⟨0, false, rfl, rfl, rfl, Nat.zero_le _, Lib.hid rfl, 0, rfl⟩
    case round =>
      obtain ⟨k, b, rfl, rfl, rfl, hk, Hb, m, rfl⟩ := hrel
      by_cases hlt : k < s.size
      rotate_left
      · have hd : decide ((k : Int) < (s.size : Int)) = false := decide_eq_false (by omega)
        have hkt : s.data.toList.take k = s.data.toList := List.take_of_length_le (by rw [← Lib.size_eq]; omega)
        rw [hkt] at Hb ⊢
        clear hkt
        replace B : Below W.heap.size W (W.drewN m) := below_drewN B m
        replace hR : RepB 0 G (W.drewN m) 3 C := hR.keep fun _ _ _ => rfl
        cases b
        · have hb := Hb.out
          have h0 : nsp s.data.toList = 0 := by
            by_cases h : nsp s.data.toList = 0
            · exact h
            · rw [decide_eq_true h] at hb; cases hb
          have he : (⟨(esc s.data.toList).toArray⟩ : ByteArray) = s := by rw [esc_same h0, bytes_list]
          have hres := HRes.out
          rw [he] at hres
          subst hres
          clear he h0 hb Hb
          go_wp2_with fail
          go_ret
          exact ⟨rfl, B⟩
        · obtain ⟨N, hN⟩ : ∃ N, (esc s.data.toList).length = N := ⟨_, rfl⟩
          have hN2 : N = s.size + nsp s.data.toList := by rw [← hN, esc_len, ← Lib.size_eq]
          have hNb : nsp s.data.toList ≤ s.size := by rw [Lib.size_eq]; exact nsp_le _
          have hNl : N ≤ 281474976710656 := by omega
          rw [show ((s.size : Nat) : Int) + (nsp s.data.toList : Nat) = (N : Int) by omega]
          clear hN2 hNb Hb
          obtain ⟨i0, hi, hz0, hzz, hz2⟩ := info_parts infoU
          go_upto_region 21 with fail
          refine name_world ?_
          intro w3 hw3
          rw [← hw3] at B hR
          clear hw3
          have hmk := run_make (P := Try.prog) w3 57 5 i0 (.int .u8 0) Try.underlying57 hi hz0 .i64 .i64 (N : Int) (N : Int) (by omega) (Int.le_refl _) (by rw [hz2]; omega) (by omega)
          rw [hzz, show Int.toNat (N : Int) * 1 = N by omega, show Int.toNat (N : Int) = N by omega] at hmk
          obtain ⟨M, hM⟩ : ∃ M, madeCells (Value.int .u8 0).cells N = M := ⟨_, rfl⟩
          have hMs : M.size = N := by rw [← hM]; exact size_madeCells _ _
          rw [hM] at hmk
          clear hM hi hz0 hzz hz2
          go_wp2_with fail
          refine name_world ?_
          intro w4 hw4
          obtain ⟨g, hg⟩ : ∃ g, g = w3.heap.size := ⟨_, rfl⟩
          have x4 : Bx w4 g 5 M := by rw [hw4]; exact Bx.at _ hg.symm
          have hR4 : RepB 0 G w4 3 C := hR.keep fun b _ hb => by
            rw [hw4]
            show (w3.heap.push _)[b]? = _
            rw [Array.getElem?_push, if_neg (by omega)]
          have B4 : Below W.heap.size W w4 := by rw [hw4]; exact bnew B
          have hlt : (∀ b : Nat, b < w3.heap.size → b < g) ∧ W.heap.size ≤ g := ⟨fun b hb => by omega, by rw [hg]; exact B.size⟩
          have hGg : G + 1 < g := hlt.1 _ hR.1.lt
          rw [← hg]
          have HR : Hid (RvLt g C (doneL.take 3)) := Lib.hid (rvlt_of hR hlt.1)
          have hWg := hlt.2
          clear hw4 hg hlt B hR hmk
          go_loopw [13, 14] (fun jv kv wr => ∃ (k j : Nat) (cs : Array Value), jv = .int .i64 (j : Int) ∧ kv = .int .i64 (k : Int) ∧ k ≤ s.size ∧ cs.size = N ∧ Bx wr g 5 cs ∧ Hid (j = (esc (s.data.toList.take k)).length) ∧ Hid (∀ (m : Nat) (x : UInt8), (esc (s.data.toList.take k))[m]? = some x → cs[m]? = some (byV x)) ∧ RepB 0 G wr 3 C ∧ Below W.heap.size W wr) (fun _ kv _ => s.size - (intOf kv).toNat)
          case atStart => exact ⟨0, 0, M, rfl, rfl, Nat.zero_le _, hMs, x4, Lib.hid rfl, Lib.hid (fun m x h => by simp [esc] at h), hR4, B4⟩
          case round =>
            clear x4 hMs B4 hR4
            obtain ⟨k, j, cs, rfl, rfl, hk, hcs, x, Hj, Hc, hR, B⟩ := hrel
            obtain ⟨qg, fg, lg⟩ := x.all
            obtain ⟨qq, fq, lq⟩ := hR.1.all
            by_cases hlt : k < s.size
            rotate_left
            · have hd : decide ((k : Int) < (s.size : Int)) = false := decide_eq_false (by omega)
              have hkt : s.data.toList.take k = s.data.toList := List.take_of_length_le (by rw [← Lib.size_eq]; omega)
              have hcv := run_convert_bytes_back (P := Try.prog) wr 57 9 5 ⟨g, 0, none⟩ N (esc s.data.toList) Try.underlying57 Try.underlying5 Try.underlying9 (fun m hm => by
                rw [show ((⟨g, 0, none⟩ : Addr).add m) = ⟨g, m, none⟩ by simp [Addr.add]; intro e; exact e.symm, qg m]
                have hh := Hc.out
                rw [hkt] at hh
                exact hh m _ (List.getElem?_eq_getElem hm))
              rw [hN, HRes.out] at hcv
              clear qg fg qq fq Hc hkt
              go_wp2_with fail
              go_ret
              exact ⟨rfl, B⟩
            obtain ⟨c, hc⟩ : ∃ c, s[k]'hlt = c := ⟨_, rfl⟩
            have hstep : esc (s.data.toList.take (k + 1)) = esc (s.data.toList.take k) ++ escB c := by
              rw [take_one (by rw [← Lib.size_eq]; exact hlt), esc_app, esc_one]
              rw [show s.data.toList[k]'(by rw [← Lib.size_eq]; exact hlt) = c from hc]
            have hfit : j + (escB c).length ≤ N := by
              have h1 := congrArg List.length hstep
              rw [List.length_append, ← Hj.out] at h1
              have h2 := esc_take_le s.data.toList (k + 1)
              omega
            have hc256 : c.toNat < 256 := c.toNat_lt
            by_cases hd : c ∈ doneL
            · obtain ⟨e1, e2, hesc⟩ := escB_two hd
              obtain ⟨v, hv, bb, kk, fz, bs, rfl, hbb, hbh, hbx⟩ := rv_some hR hd
              have hbg : bb < g := by
                obtain ⟨v', b', k', h1, h2, h3⟩ := HR.out c hd
                rw [hv] at h1
                cases h1
                simp at h2
                rw [h2.1]; exact h3
              have pc : wr.cell? ⟨G + 1, c.toNat, none⟩ = some (.slice (some ⟨bb, 0, none⟩) 2 kk) := (qq _).trans hv
              rw [hesc] at hbx hfit hstep
              have s0 : wr.cell? ⟨bb, 0, none⟩ = some (byV e1) := by rw [Lib.cell_of_heap hbh]; exact hbx 0 e1 rfl
              have s1 : wr.cell? ⟨bb, 1, none⟩ = some (byV e2) := by rw [Lib.cell_of_heap hbh]; exact hbx 1 e2 rfl
              have hf2 : j + 2 ≤ N := hfit
              have hn1 : ((2 : Nat) : Int) ≤ (N : Int) - (j : Int) := by omega
              clear hfit hbx hbh qq hv
              have hjN : ¬ j = N := by omega
              have hcp := run_copy_cells (P := Try.prog) wr.drew 57 57 3 5 g j (N - j) (N - j) ⟨bb, 0, none⟩ 2 kk [byV e1, byV e2] Try.underlying57 (by kernel_rfl) (by show 2 = min 2 (N - j); omega) (by
                intro m v hm
                have hm2 : m < 2 := by have := (List.getElem?_eq_some_iff.1 hm).1; simpa using this
                rcases (by omega : m = 0 ∨ m = 1) with rfl | rfl
                · simp at hm; subst hm; simpa [Addr.add] using s0
                · simp at hm; subst hm; simpa [Addr.add] using s1)
                (by
                  intro m hm
                  have hm2 : m < 2 := hm
                  have := qg (j + m)
                  rw [Array.getElem?_eq_getElem (by omega)] at this
                  show (wr.cell? _).isSome = true
                  rw [this]; rfl)
                (fun m _ => fg (j + m)) (by intro v hv; simp at hv; rcases hv with rfl | rfl <;> rfl)
              clear qg fg fq s0 s1
              go_upto_region 28 with fail
              go_region
              go_upto_region 25 with fail
              refine name_world ?_
              intro w7 hw7
              replace hw7 : w7 = (wr.drew.setCell ⟨g, j, none⟩ (byV e1)).setCell ⟨g, j + 1, none⟩ (byV e2) := hw7.trans rfl
              have x7 : Bx w7 g 5 ((cs.setIfInBounds j (byV e1)).setIfInBounds (j + 1) (byV e2)) := by rw [hw7]; exact Bx.set (Bx.set (w := wr.drew) x j _) (j + 1) _
              have hR7 : RepB 0 G w7 3 C := by rw [hw7]; exact rep_put (rep_put (hR.keep (w' := wr.drew) fun _ _ _ => rfl) hGg HR.out) hGg HR.out
              have B7 : Below W.heap.size W w7 := by rw [hw7]; exact bput (by omega) (bput (by omega) (below_drewN B 1))
              clear hw7 x hR B hcp pc
              go_wp2_with fail
              go_roundw
              case rel => exact ⟨k + 1, j + 2, _, by go_num, by go_num, by omega, by simpa using hcs, x7, Lib.hid (by rw [hstep, List.length_append, ← Hj.out]; rfl), Lib.hid (put_two Hj.out Hc.out hstep (by omega)), hR7, B7⟩
              case measure => simp [intOf]; omega
            · have hesc : escB c = [c] := escB_one hd
              have pc : wr.cell? ⟨G + 1, c.toNat, none⟩ = some (.slice none 0 0) := (qq _).trans (rv_none hR hd)
              rw [hesc] at hfit hstep
              have hf1 : j + 1 ≤ N := hfit
              have pj : (wr.cell? ⟨g, j, none⟩).isSome = true := by rw [qg j, Array.getElem?_eq_getElem (by omega)]; rfl
              obtain ⟨old, pj2⟩ := Option.isSome_iff_exists.1 pj
              have fj := fg j
              clear qg fg qq fq pj hfit
              go_upto_region 29 with fail
              go_wp2_with fail
              go_roundw
              case rel => exact ⟨k + 1, j + 1, _, by go_num, by go_num, by omega, by simpa using hcs, x.set j (byV c), Lib.hid (by rw [hstep, List.length_append, ← Hj.out]; rfl), Lib.hid (put_one Hj.out Hc.out hstep (by omega)), rep_put hR hGg HR.out, bput (by omega) B⟩
              case measure => simp [intOf]; omega
      obtain ⟨c, hc⟩ : ∃ c, s[k]'hlt = c := ⟨_, rfl⟩
      have hc256 : c.toNat < 256 := c.toNat_lt
      have hns : nsp (s.data.toList.take (k + 1)) = nsp (s.data.toList.take k) + (if c ∈ doneL then 1 else 0) := by
        rw [take_one (by rw [← Lib.size_eq]; exact hlt), nsp_app, show s.data.toList[k]'(by rw [← Lib.size_eq]; exact hlt) = c from hc, nsp_cons]
        rfl
      have hnk : nsp (s.data.toList.take k) ≤ k := Nat.le_trans (nsp_le _) (by rw [List.length_take]; exact Nat.min_le_left _ _)
      obtain ⟨n, hn⟩ : ∃ n, nsp (s.data.toList.take k) = n := ⟨_, rfl⟩
      rw [hn] at hns hnk Hb ⊢
      clear hn
      by_cases hd : c ∈ doneL
      · obtain ⟨v, hv, bb, kk, fz, bs, rfl, hbb, hbh, hbx⟩ := rv_some hR hd
        have pc : W.cell? ⟨G + 1, c.toNat, none⟩ = some (.slice (some ⟨bb, 0, none⟩) 2 kk) := (hR.1.all.1 _).trans hv
        rw [if_pos hd] at hns
        clear hbx hbh hv Hb
        go_wp2_with fail
        go_roundw
        case rel => exact ⟨k + 1, true, by rw [hns]; go_num, rfl, by go_num, by omega, Lib.hid (by rw [hns]; simp), m, rfl⟩
        case measure => simp [intOf]; omega
      · have pc : W.cell? ⟨G + 1, c.toNat, none⟩ = some (.slice none 0 0) := (hR.1.all.1 _).trans (rv_none hR hd)
        rw [if_neg hd] at hns
        go_wp2_with fail
        go_roundw
        case rel => exact ⟨k + 1, b, by rw [hns]; go_num, rfl, by go_num, by omega, Lib.hid (by rw [hns]; exact Hb.out), m, rfl⟩
        case measure => simp [intOf]; omega
end Go.Proofs.Ytojieeenbbgpdaa
