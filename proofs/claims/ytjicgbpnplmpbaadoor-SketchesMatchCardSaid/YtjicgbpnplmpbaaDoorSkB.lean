/- scope.Sketch of what it takes. -/
import Derived.Test.YtjicgbpnplmpbaaDoorSkA
import Derived.Laws.IdiomStrings
namespace Go.Proofs.YtjicgbpnplmpbaaDoor
open Go.RowKit

def cellB (height k most n : Int) : UInt8 := if 0 < most ∧ k * most ≤ n * height then 35 else 32
def lineL (ns : List Int) (height k most : Int) : List UInt8 := ns.map (cellB height k most)
def rowL (ns : List Int) (height k most : Int) : List UInt8 := Lib.trimRightB (lineL ns height k most) 32 ++ [10]
/-- The text after i rows. -/
def textL (ns : List Int) (h : Nat) (most : Int) : Nat → List UInt8
  | 0 => []
  | i + 1 => textL ns h most i ++ rowL ns h ((h - i : Nat) : Int) most
theorem trimRightB_le (l : List UInt8) (c : UInt8) : (Lib.trimRightB l c).length ≤ l.length := by
  unfold Lib.trimRightB
  rw [List.length_reverse]
  have := (List.dropWhile_sublist (fun x => x == c) (l := l.reverse)).length_le
  rwa [List.length_reverse] at this
theorem rowL_le (ns : List Int) (height k most : Int) : (rowL ns height k most).length ≤ ns.length + 1 := by
  unfold rowL
  have := trimRightB_le (lineL ns height k most) 32
  have e : (lineL ns height k most).length = ns.length := by simp [lineL]
  rw [List.length_append]
  simp only [List.length_cons, List.length_nil]
  omega
theorem textL_le (ns : List Int) (h : Nat) (most : Int) (i : Nat) : (textL ns h most i).length ≤ i * (ns.length + 1) := by
  induction i with
  | zero => simp [textL]
  | succ i ih =>
    have := rowL_le ns h ((h - i : Nat) : Int) most
    rw [textL, List.length_append, Nat.add_mul]
    omega

/-- Bytes, one a cell. -/
def arrU (f : Nat → UInt8) (n : Nat) : Array Value := ((List.range n).map fun (q : Nat) => Value.int .u8 ((f q).toNat : Int)).toArray
theorem arrU_at (f : Nat → UInt8) (n q : Nat) (h : q < n) : (arrU f n)[q]? = some (.int .u8 ((f q).toNat : Int)) := by
  unfold arrU
  simp [h]
theorem arrU_set {f g : Nat → UInt8} {n k : Nat} {v : Int} (hv : v = ((g k).toNat : Int)) (h : ∀ q, q ≠ k → g q = f q) : (arrU f n).setIfInBounds k (.int .u8 v) = arrU g n := by
  subst hv
  apply Array.toList_inj.1
  rw [Array.toList_setIfInBounds]
  unfold arrU
  apply List.ext_getElem
  · simp
  · intro i h1 h2
    rw [List.getElem_set]
    simp only [List.getElem_map, List.getElem_range]
    by_cases hi : k = i
    · subst hi; rw [if_pos rfl]
    · rw [if_neg hi, h i (fun e => hi e.symm)]
theorem arrU_zero (n : Nat) : madeCells #[.int .u8 0] n = arrU (fun _ => 0) n := by
  apply Array.toList_inj.1
  rw [toList_madeCells_one]
  unfold arrU
  apply List.ext_getElem
  · simp
  · intro i h1 h2; simp
theorem run_makeU (w : World) (N : Nat) (hN : N ≤ 1000000) :
    (Instr.makeSlice 82 (.int .i64 (N : Int)) (.int .i64 (N : Int))).run Tryd.prog w = .ok (.slice (some ⟨w.heap.size, 0, none⟩) N N) (w.alloc (.cells (madeCells #[.int .u8 0] N) 5)) := by
  obtain ⟨i0, hi, hz0, hz1, hz2⟩ := info_parts infoU8
  have := run_make (P := Tryd.prog) w 82 5 i0 (.int .u8 0) Tryd.underlying82 hi hz0 .i64 .i64 N N (by omega) (Int.le_refl _) (by rw [hz2]; omega) (by omega)
  rw [this, hz1]
  simp [Value.cells]
theorem isb_keep {T e : TypeId} {B b : Nat} {bs : List Value} {w w' : World} (h : Lib.IsBuilder T e B b bs w) (hb : Below w.heap.size w w') : Lib.IsBuilder T e B b bs w' := by
  have key : ∀ p, Lib.BuilderAt T e B b p bs w → Lib.BuilderAt T e B b p bs w' := by
    rintro p ⟨h1, v, h2, h3, h4⟩
    refine ⟨h1, v, ?_, ?_, h4⟩
    · rw [hb.block b (Array.getElem?_eq_some_iff.1 h2).1]; exact h2
    · refine ⟨h3.1, ?_⟩
      rcases h3.2 with h0 | ⟨g, cap, cur, e1, e2, e3, e4⟩
      · exact .inl h0
      · exact .inr ⟨g, cap, cur, e1, e2, (hb.block g (Array.getElem?_eq_some_iff.1 e3).1).trans e3, e4⟩
  exact h.imp (key _) (key _)
theorem Bx.other' {w : World} {b a o : Nat} {T : TypeId} {cs : Array Value} {v : Value} (ha : b ≠ a) (h : Bx w b T cs) : Bx (w.setCell ⟨a, o, none⟩ v) b T cs := h.other ⟨a, o, none⟩ v ha

set_option maxRecDepth 100000 in
set_option maxHeartbeats 4000000 in
theorem scope_Sketch_ok (b o n c h : Nat) (ns : List Int) (bel abv nan : Int) (W : World) (hn : ns.length = n) (hn1 : 0 < n) (hn2 : n ≤ 1024) (hh1 : 1 ≤ h) (hh2 : h ≤ 64) (hbad : ns.any badI = false) (hb : b < W.heap.size) (hrd : ∀ k, k < n → W.cell? ⟨b, o + k, none⟩ = some (.int .i64 (ns.getD k 0))) :
    Calls Tryd.prog 19 #[.agg #[.slice (some ⟨b, o, none⟩) n c, .int .i64 bel, .int .i64 abv, .int .i64 nan], .int .i64 (h : Int)] W fun e w' =>
      e = .returned (.tuple #[.string ⟨(textL ns h (Lib.maxOf ns) h).toArray⟩, .int .i64 0]) ∧ Below W.heap.size W w' := by
  have hd0 : ((n : Int) == 0) = false := by simp; omega
  have hd1 : decide (1024 < (n : Int)) = false := by simp; omega
  have hd2 : decide ((h : Int) < 1) = false := by simp; omega
  have hd3 : decide (64 < (h : Int)) = false := by simp; omega
  have hmk := fun w => run_makeU w n (by omega)
  obtain ⟨m1, j1, m2, m3⟩ := maxOf_ge ns n hn1 (by omega)
  have hall : ∀ j, j < n → 0 ≤ ns.getD j 0 ∧ ns.getD j 0 ≤ 16777216 := by
    intro j hj
    have h1 := List.any_eq_false.1 hbad (ns.getD j 0) (by rw [List.getD_eq_getElem?_getD, List.getElem?_eq_getElem (by omega)]; exact List.getElem_mem _)
    generalize ns.getD j 0 = x at *
    simp only [badI] at h1
    simp at h1
    omega
  have hmx := hall j1 m2
  rw [← m3] at hmx
  rw [List.take_of_length_le (by omega)] at hmx
  have Hh := Lib.hid (And.intro hn (And.intro hbad hall))
  clear hn hbad hall m1 m2 m3
  generalize hmost : Lib.maxOf ns = most at *
  have Hmost := Lib.hid hmost
  clear hmost
  go_enter Tryd.func19, Tryd.ntmps19
  go_upto_region 1 with fail
  refine name_world ?_
  intro w0 hw0
  have x2 : Bx w0 W.heap.size 47 #[.slice (some ⟨b, o, none⟩) n c, .int .i64 bel, .int .i64 abv, .int .i64 nan] := by rw [hw0]; exact Bx.new _ _ _
  have B : Below W.heap.size W w0 := by rw [hw0]; exact bnew (Below.refl _ W)
  clear hw0
  obtain ⟨q2, f2, l2⟩ := x2.all
  go_wp2_with fail
  refine (sk_contains b o n c ns _ Hh.out.1 (by omega) (Nat.lt_of_lt_of_le hb B.size) (fun k hk => (B.cell (p := ⟨b, o + k, none⟩) hb).trans (hrd k hk))).mono ?_
  rw [Hh.out.2.1]
  rintro e w1 ⟨rfl, hb1⟩
  replace x2 := x2.keep hb1
  replace B := bcall B hb1
  clear hb1 q2 f2 l2
  obtain ⟨q2, f2, l2⟩ := x2.all
  go_wp2_with fail
  refine (Tryd.slices_Max_int b o n c ns _ hn1 (by rw [Hh.out.1]; exact Nat.le_refl _) (by omega) (fun j hj => (B.cell (p := ⟨b, o + j, none⟩) hb).trans (hrd j (by rw [← Hh.out.1]; exact hj)))).mono ?_
  rw [List.take_of_length_le (by rw [Hh.out.1]; exact Nat.le_refl _), Hmost.out]
  rintro e w2 ⟨rfl, rfl⟩
  go_upto_region 9 with fail
  refine name_world ?_
  intro w3 hw3
  have hB : Lib.IsBuilder 84 5 w2.heap.size w2.heap.size (Lib.byteCells (textL ns h most 0)) w3 := by rw [hw3]; exact Lib.fresh_isBuilder _ _ _
  have E : Below w2.heap.size w2 w3 := by rw [hw3]; exact bnew (Below.refl _ _)
  have hpB : W.heap.size < w2.heap.size := x2.lt
  have hs3 : w2.heap.size ≤ w3.heap.size := E.size
  replace x2 := x2.keep E
  replace B := bcall B E
  clear hw3 E q2 f2 l2 hd0 hd1 hd2 hd3 j1
  generalize w2.heap.size = pB at *
  clear w2
  go_wp2_with fail
  go_loopw [8] (fun s wr => ∃ i : Nat, i ≤ h ∧ s = .int .i64 ((h - i : Nat) : Int) ∧ Lib.IsBuilder 84 5 pB pB (Lib.byteCells (textL ns h most i)) wr ∧ pB ≤ wr.heap.size ∧ Bx wr W.heap.size 47 #[.slice (some ⟨b, o, none⟩) n c, .int .i64 bel, .int .i64 abv, .int .i64 nan] ∧ Below W.heap.size W wr) (fun s _ => (intOf s).toNat)
  case atStart => exact ⟨0, by omega, by simp, hB, hs3, x2, B⟩
  case round =>
    clear hB hs3 x2 B
    obtain ⟨i, hi, rfl, hB, hsz, x2, B⟩ := hrel
    by_cases hlt : i < h
    · obtain ⟨k, hk⟩ : ∃ k, k = h - i := ⟨_, rfl⟩
      have hk1 : 1 ≤ k ∧ k ≤ 64 := by omega
      have Hk := Lib.hid hk
      rw [← hk]
      clear hk
      have hki : (1 : Int) ≤ (k : Int) := by omega
      obtain ⟨q2, f2, l2⟩ := x2.all
      go_upto_region 13 with fail
      refine name_world ?_
      intro wl hwl
      have xl : Bx wl wr.heap.size 5 (arrU (fun q => if q < 0 then cellB h k most (ns.getD q 0) else 0) n) := by rw [hwl, show (fun q => if q < 0 then cellB h k most (ns.getD q 0) else (0 : UInt8)) = (fun _ => 0) from by funext q; simp, ← arrU_zero]; exact Bx.new _ _ _
      have E : Below wr.heap.size wr wl := by rw [hwl]; exact bnew (Below.refl _ _)
      have y2 := x2.keep E
      clear hwl q2 f2 l2
      obtain ⟨q2, f2, l2⟩ := y2.all
      have hgl : W.heap.size < wr.heap.size := x2.lt
      go_wp2_with fail
      generalize hgw : wr.heap.size = gl at *
      go_loopw [49] (fun s wi => ∃ j : Nat, j ≤ n ∧ s = .int .i64 (j : Int) ∧ Bx wi gl 5 (arrU (fun q => if q < j then cellB h k most (ns.getD q 0) else 0) n) ∧ Below gl wr wi) (fun s _ => n - (intOf s).toNat)
      case atStart => exact ⟨0, by omega, rfl, xl, E⟩
      case round =>
        clear xl E y2 q2 f2 l2
        obtain ⟨j, hj, rfl, xl, E⟩ := hrel
        have y2 := x2.below E hgl
        obtain ⟨q2, f2, l2⟩ := y2.all
        by_cases hjn : j < n
        · have hji : (j : Int) < (n : Int) := by omega
          have cj : wr.cell? ⟨b, o + j, none⟩ = some (.int .i64 (ns.getD j 0)) := (E.cell (p := ⟨b, o + j, none⟩) (show b < gl by omega)).trans ((B.cell (p := ⟨b, o + j, none⟩) hb).trans (hrd j hjn))
          have hv := Hh.out.2.2 j hjn
          have hs32 : cellB h k most (ns.getD j 0) = 32 → (arrU (fun q => if q < j then cellB h k most (ns.getD q 0) else 0) n).setIfInBounds j (.int .u8 32) = arrU (fun q => if q < j + 1 then cellB h k most (ns.getD q 0) else 0) n := by
            intro hc
            refine arrU_set (by show (32 : Int) = ((if j < j + 1 then cellB h k most (ns.getD j 0) else 0 : UInt8).toNat : Int); rw [if_pos (Nat.lt_succ_self j), hc]; rfl) fun q hq => ?_
            by_cases h0 : q < j
            · simp only [if_pos h0, if_pos (show q < j + 1 by omega)]
            · simp only [if_neg h0, if_neg (show ¬ q < j + 1 by omega)]
          have hs35 : cellB h k most (ns.getD j 0) = 35 → ((arrU (fun q => if q < j then cellB h k most (ns.getD q 0) else 0) n).setIfInBounds j (.int .u8 32)).setIfInBounds j (.int .u8 35) = arrU (fun q => if q < j + 1 then cellB h k most (ns.getD q 0) else 0) n := by
            intro hc
            have e1 := arrU_set (f := fun q => if q < j then cellB h k most (ns.getD q 0) else 0) (g := fun q => if q = j then 32 else if q < j then cellB h k most (ns.getD q 0) else 0) (n := n) (k := j) (v := 32) (by simp) (fun q hq => by simp only [if_neg hq])
            rw [e1]
            refine arrU_set (by show (35 : Int) = ((if j < j + 1 then cellB h k most (ns.getD j 0) else 0 : UInt8).toNat : Int); rw [if_pos (Nat.lt_succ_self j), hc]; rfl) fun q hq => ?_
            simp only [if_neg hq]
            by_cases h0 : q < j
            · simp only [if_pos h0, if_pos (show q < j + 1 by omega)]
            · simp only [if_neg h0, if_neg (show ¬ q < j + 1 by omega)]
          generalize ns.getD j 0 = v at cj hv hs32 hs35
          have Hs := Lib.hid (And.intro hs32 hs35)
          clear hs32 hs35
          have p1 : 0 ≤ v * (h : Int) := Int.mul_nonneg hv.1 (by omega)
          have p2 : v * (h : Int) ≤ 16777216 * 64 := Int.mul_le_mul hv.2 (by omega) (by omega) (by omega)
          have p3 : 0 ≤ (k : Int) * most := Int.mul_nonneg (by omega) hmx.1
          have p4 : (k : Int) * most ≤ 64 * 16777216 := Int.mul_le_mul (by omega) hmx.2 hmx.1 (by omega)
          have fl := xl.all.2.1 j
          have ll := xl.lt
          have xl1 := xl.set j (.int .u8 32)
          have lz : ∃ u, wr.cell? ⟨gl, j, none⟩ = some u := ⟨_, by rw [xl.all.1 j, arrU_at _ n j hjn]⟩
          obtain ⟨u0, hu0⟩ := lz
          by_cases hm : 0 < most
          · have g1 : decide (0 < most) = true := by simpa using hm
            by_cases hc : (k : Int) * most ≤ v * (h : Int)
            · have g2 : decide ((k : Int) * most ≤ v * (h : Int)) = true := by simpa using hc
              have hcell : cellB h k most v = 35 := by unfold cellB; rw [if_pos ⟨hm, hc⟩]
              have Hc := Lib.hid hcell
              clear hcell
              have xl2 := xl1.set j (.int .u8 35)
              rw [Hs.out.2 Hc.out] at xl2
              go_wp2_with fail
              go_roundw
              case rel => exact ⟨j + 1, by omega, by go_num, by simpa using xl2, Below.set' (Nat.le_refl _) (Below.set' (Nat.le_refl _) E)⟩
              case measure => simp [intOf]; omega
            · have g2 : decide ((k : Int) * most ≤ v * (h : Int)) = false := by simpa using hc
              have hcell : cellB h k most v = 32 := by unfold cellB; rw [if_neg (fun hh => hc hh.2)]
              have Hc := Lib.hid hcell
              clear hcell
              rw [Hs.out.1 Hc.out] at xl1
              go_wp2_with fail
              go_roundw
              case rel => exact ⟨j + 1, by omega, by go_num, by simpa using xl1, Below.set' (Nat.le_refl _) E⟩
              case measure => simp [intOf]; omega
          · have g1 : decide (0 < most) = false := by simpa using hm
            have hcell : cellB h k most v = 32 := by unfold cellB; rw [if_neg (fun hh => hm hh.1)]
            have Hc := Lib.hid hcell
            clear hcell
            rw [Hs.out.1 Hc.out] at xl1
            go_wp2_with fail
            go_roundw
            case rel => exact ⟨j + 1, by omega, by go_num, by simpa using xl1, Below.set' (Nat.le_refl _) E⟩
            case measure => simp [intOf]; omega
        · have hjn' : j = n := by omega
          subst hjn'
          have hlen : (lineL ns h k most).length = j := by simp [lineL, Hh.out.1]
          have hcv := run_convert_bytes_back (P := Tryd.prog) wr 82 9 5 ⟨gl, 0, none⟩ j (lineL ns h k most) Tryd.underlying82 Tryd.underlying5 Tryd.underlying9 (fun m hm => by
            have hmj : m < j := by omega
            have ha : (⟨gl, 0, none⟩ : Addr).add m = ⟨gl, m, none⟩ := by unfold Addr.add; split <;> simp_all
            rw [ha, xl.all.1 m, arrU_at _ j m hmj]
            simp only [if_pos hmj, lineL, List.getElem_map]
            rw [List.getD_eq_getElem?_getD, List.getElem?_eq_getElem (by rw [Hh.out.1]; exact hmj)]
            rfl)
          rw [hlen] at hcv
          have hsz2 : (⟨(lineL ns h k most).toArray⟩ : ByteArray).size ≤ 9223372036854775807 := by
            show (lineL ns h k most).toArray.size ≤ _
            simp only [List.size_toArray, hlen]
            omega
          have htl := trimRightB_le (lineL ns h k most) 32
          rw [hlen] at htl
          have hno : ¬ (9223372036854775807 < (Lib.trimRightB (lineL ns h k most) 32).length + 1) := by omega
          clear xl htl
          go_wp2_with fail
          refine (Tryd.strings_TrimRight_one ⟨(lineL ns h k most).toArray⟩ 32 (by decide) _ hsz2).mono ?_
          rintro e wx ⟨rfl, rfl⟩
          go_wp2_with fail
          have hbx : Lib.IsBuilder 84 5 pB pB (Lib.byteCells (textL ns h most i)) wx := isb_keep hB (by rw [hgw]; exact E)
          have x3 := x2.below E hgl
          have B3 : Below W.heap.size W wx := B.trans (E.mono (by omega))
          have hs4 := E.size
          have htx := textL_le ns h most i
          have htx2 : i * (ns.length + 1) ≤ 64 * 1025 := Nat.mul_le_mul (by omega) (by rw [Hh.out.1]; omega)
          have hcat : (⟨(Lib.trimRightB (lineL ns h k most) 32).toArray⟩ ++ ⟨#[10]⟩ : ByteArray) = ⟨(rowL ns h k most).toArray⟩ := by
            apply ByteArray.ext
            rw [ByteArray.data_append]
            simp [rowL]
          have hrs : (⟨(rowL ns h k most).toArray⟩ : ByteArray).size ≤ 1025 := by
            show (rowL ns h k most).toArray.size ≤ _
            have := rowL_le ns h k most
            rw [Hh.out.1] at this
            simp only [List.size_toArray]
            omega
          have hbl2 : (Lib.byteCells (textL ns h most i)).length ≤ 64 * 1025 := by rw [Lib.byteCells_length]; omega
          clear hB x2 B E
          rw [hcat]
          refine (bld_write pB pB _ _ wx hbx (by omega) (by omega)).mono ?_
          rintro e wy ⟨rfl, hB2, hb2⟩
          have x4 := x3.below hb2 hpB
          have B4 : Below W.heap.size W wy := B3.trans (hb2.mono (by omega))
          have hs5 := hb2.size
          have htxt : Lib.byteCells (textL ns h most i) ++ Lib.strCells ⟨(rowL ns h k most).toArray⟩ = Lib.byteCells (textL ns h most (i + 1)) := by
            rw [Lib.strCells_eq, textL, ← Hk.out]
            simp [Lib.byteCells]
          rw [htxt] at hB2
          clear htxt hb2 x3 B3
          go_wp2_with fail
          go_roundw
          case rel => exact ⟨i + 1, by omega, by have := Hk.out; simp; omega, .inr hB2, by omega, x4, B4⟩
          case measure => simp [intOf]; omega
    · have hih : i = h := by omega
      subst hih
      go_wp2_with fail
      refine (Tryd.Builder_String_any pB pB (textL ns i most i) _ hB hsz).mono ?_
      rintro e wx ⟨rfl, hbx⟩
      have Bx2 : Below W.heap.size W wx := B.trans (hbx.mono (by omega))
      go_wp2_with fail
      go_ret2
      exact ⟨rfl, Bx2⟩
end Go.Proofs.YtjicgbpnplmpbaaDoor
