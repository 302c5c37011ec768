/- dyeref1.Sketch of what it takes. -/
import Derived.Test.YtjicgbpnplmpbaaDoorSkC
namespace Go.Proofs.YtjicgbpnplmpbaaDoor
open Go.RowKit

theorem lineL_take (ns : List Int) (height k most : Int) (j : Nat) (hj : j < ns.length) : (lineL ns height k most).take (j + 1) = (lineL ns height k most).take j ++ [cellB height k most (ns.getD j 0)] := by
  have hl : j < (lineL ns height k most).length := by simp [lineL, hj]
  rw [List.take_add_one, List.getElem?_eq_getElem hl]
  simp only [lineL, List.getElem_map, Option.toList_some]
  rw [List.getD_eq_getElem?_getD, List.getElem?_eq_getElem hj]
  rfl
theorem str_add (l m : List UInt8) : (⟨l.toArray⟩ ++ ⟨m.toArray⟩ : ByteArray) = ⟨(l ++ m).toArray⟩ := by
  apply ByteArray.ext
  rw [ByteArray.data_append]
  simp

set_option maxRecDepth 100000 in
set_option maxHeartbeats 4000000 in
theorem ref_Sketch_ok (b o n c h : Nat) (ns : List Int) (bel abv nan : Int) (W : World) (hn : ns.length = n) (hn1 : 0 < n) (hn2 : n ≤ 1024) (hh1 : 1 ≤ h) (hh2 : h ≤ 64) (hbad : ns.any badI = false) (hb : b < W.heap.size) (hrd : ∀ k, k < n → W.cell? ⟨b, o + k, none⟩ = some (.int .i64 (ns.getD k 0))) :
    Calls Tryd.prog 20 #[.agg #[.slice (some ⟨b, o, none⟩) n c, .int .i64 bel, .int .i64 abv, .int .i64 nan], .int .i64 (h : Int)] W fun e w' =>
      e = .returned (.tuple #[.string ⟨(textL ns h (Lib.maxOf ns) h).toArray⟩, .int .i64 0]) ∧ Below W.heap.size W w' := by
  have hd0 : ((n : Int) == 0) = false := by simp; omega
  have hd1 : decide (1024 < (n : Int)) = false := by simp; omega
  have hd2 : decide ((h : Int) < 1) = false := by simp; omega
  have hd3 : decide (64 < (h : Int)) = false := by simp; omega
  obtain ⟨m1, j1, m2, m3⟩ := maxOf_ge ns n hn1 (by omega)
  rw [List.take_of_length_le (by omega)] at m1 m3
  have hall : ∀ j, j < n → 0 ≤ ns.getD j 0 ∧ ns.getD j 0 ≤ 16777216 := by
    intro j hj
    have h1 := List.any_eq_false.1 hbad (ns.getD j 0) (by rw [List.getD_eq_getElem?_getD, List.getElem?_eq_getElem (by omega)]; exact List.getElem_mem _)
    generalize ns.getD j 0 = x at *
    simp only [badI] at h1
    simp at h1
    omega
  have hmx := hall j1 m2
  rw [← m3] at hmx
  have hab := any_bad ns (by omega)
  rw [hbad] at hab
  have hmn : ¬ Lib.minOf ns < 0 := by
    intro h0
    rw [show decide (Lib.minOf ns < 0) = true by simpa using h0] at hab
    simp at hab
  have e1 := fun w (B : Below W.heap.size W w) => Tryd.slices_Max_int b o n c ns w hn1 (by rw [hn]; exact Nat.le_refl _) (by omega) (fun j hj => (B.cell (p := ⟨b, o + j, none⟩) hb).trans (hrd j (by rw [← hn]; exact hj)))
  have e2 := fun w (B : Below W.heap.size W w) => Tryd.slices_Min_int b o n c ns w hn1 (by rw [hn]; exact Nat.le_refl _) (by omega) (fun j hj => (B.cell (p := ⟨b, o + j, none⟩) hb).trans (hrd j (by rw [← hn]; exact hj)))
  rw [List.take_of_length_le (by omega)] at e1 e2
  generalize Lib.maxOf ns = most at *
  generalize Lib.minOf ns = mn at *
  have g1 : decide (mn < 0) = false := by simpa using hmn
  have g2 : decide (16777216 < most) = false := by simp; omega
  have Hh := Lib.hid (And.intro hn (And.intro m1 hall))
  have E1 := Lib.hid e1
  have E2 := Lib.hid e2
  clear hn hbad hall m1 m2 m3 hab hmn e1 e2
  go_enter Tryd.func20, Tryd.ntmps20
  go_upto_region 1 with fail
  refine name_world ?_
  intro w0 hw0
  have x2 : Bx w0 W.heap.size 47 #[.slice (some ⟨b, o, none⟩) n c, .int .i64 bel, .int .i64 abv, .int .i64 nan] := by rw [hw0]; exact Bx.new _ _ _
  have B : Below W.heap.size W w0 := by rw [hw0]; exact bnew (Below.refl _ W)
  clear hw0
  obtain ⟨q2, f2, l2⟩ := x2.all
  go_wp2_with fail
  refine (E2.out _ B).mono ?_
  rintro e w1 ⟨rfl, rfl⟩
  go_wp2_with fail
  refine (E1.out _ B).mono ?_
  rintro e w1 ⟨rfl, rfl⟩
  go_wp2_with fail
  refine (E1.out _ B).mono ?_
  rintro e w1 ⟨rfl, rfl⟩
  clear hd0 hd1 hd2 hd3 g1 g2 j1 E1 E2
  go_wp2_with fail
  go_loopw [7, 8] (fun t s wr => ∃ i : Nat, i ≤ h ∧ s = .int .i64 ((h - i : Nat) : Int) ∧ t = .string ⟨(textL ns h most i).toArray⟩ ∧ Bx wr W.heap.size 47 #[.slice (some ⟨b, o, none⟩) n c, .int .i64 bel, .int .i64 abv, .int .i64 nan] ∧ Below W.heap.size W wr) (fun t s _ => (intOf s).toNat)
  case atStart => exact ⟨0, by omega, by simp, rfl, x2, B⟩
  case round =>
    clear x2 B q2 f2 l2
    obtain ⟨i, hi, rfl, rfl, x2, B⟩ := hrel
    by_cases hlt : i < h
    · obtain ⟨k, hk⟩ : ∃ k, k = h - i := ⟨_, rfl⟩
      have hk1 : 1 ≤ k ∧ k ≤ 64 := by omega
      have Hk := Lib.hid hk
      rw [← hk]
      clear hk
      have hki : (1 : Int) ≤ (k : Int) := by omega
      obtain ⟨q2, f2, l2⟩ := x2.all
      go_wp2_with fail
      go_loopw [9, 52] (fun t s wi => ∃ j : Nat, j ≤ n ∧ s = .int .i64 (j : Int) ∧ t = .string ⟨((lineL ns h k most).take j).toArray⟩ ∧ Bx wi W.heap.size 47 #[.slice (some ⟨b, o, none⟩) n c, .int .i64 bel, .int .i64 abv, .int .i64 nan] ∧ Below W.heap.size W wi) (fun t s _ => n - (intOf s).toNat)
      case atStart => exact ⟨0, by omega, rfl, by simp, x2, B⟩
      case round =>
        clear x2 B q2 f2 l2
        obtain ⟨j, hj, rfl, rfl, x2, B⟩ := hrel
        obtain ⟨q2, f2, l2⟩ := x2.all
        by_cases hjn : j < n
        · have hji : (j : Int) < (n : Int) := by omega
          have cj : wr.cell? ⟨b, o + j, none⟩ = some (.int .i64 (ns.getD j 0)) := (B.cell (p := ⟨b, o + j, none⟩) hb).trans (hrd j hjn)
          have hv := Hh.out.2.2 j hjn
          have hvm := Hh.out.2.1 j hjn
          have htk := lineL_take ns h k most j (by rw [Hh.out.1]; exact hjn)
          have hll : ((lineL ns h k most).take j).length ≤ 1024 := by rw [List.length_take]; omega
          generalize ns.getD j 0 = v at cj hv hvm htk
          generalize hT : (lineL ns h k most).take j = T at *
          have Ht := Lib.hid htk
          clear htk hT
          have p1 : 0 ≤ v * (h : Int) := Int.mul_nonneg hv.1 (by omega)
          have p2 : v * (h : Int) ≤ 16777216 * 64 := Int.mul_le_mul hv.2 (by omega) (by omega) (by omega)
          have p3 : 0 ≤ (k : Int) * most := Int.mul_nonneg (by omega) hmx.1
          have p4 : (k : Int) * most ≤ 64 * 16777216 := Int.mul_le_mul (by omega) hmx.2 hmx.1 (by omega)
          have hno : ¬ (9223372036854775807 < T.length + 1) := by omega
          have a35 : (⟨T.toArray⟩ ++ ⟨#[35]⟩ : ByteArray) = ⟨(T ++ [35]).toArray⟩ := str_add T [35]
          have a32 : (⟨T.toArray⟩ ++ ⟨#[32]⟩ : ByteArray) = ⟨(T ++ [32]).toArray⟩ := str_add T [32]
          have Ha := Lib.hid (And.intro a35 a32)
          clear a35 a32
          by_cases hm : 0 < v
          · have g1 : decide (0 < v) = true := by simpa using hm
            have hmp : 0 < most := by omega
            by_cases hc : (k : Int) * most ≤ v * (h : Int)
            · have g2 : decide ((k : Int) * most ≤ v * (h : Int)) = true := by simpa using hc
              have hcell : cellB h k most v = 35 := by unfold cellB; rw [if_pos ⟨hmp, hc⟩]
              have Hc := Lib.hid hcell
              clear hcell
              go_wp2_with fail
              go_roundw
              case rel => exact ⟨j + 1, by omega, by go_num, by rw [Ha.out.1, Ht.out, Hc.out], x2, B⟩
              case measure => simp [intOf]; omega
            · have g2 : decide ((k : Int) * most ≤ v * (h : Int)) = false := by simpa using hc
              have hcell : cellB h k most v = 32 := by unfold cellB; rw [if_neg (fun hh => hc hh.2)]
              have Hc := Lib.hid hcell
              clear hcell
              go_wp2_with fail
              go_roundw
              case rel => exact ⟨j + 1, by omega, by go_num, by rw [Ha.out.2, Ht.out, Hc.out], x2, B⟩
              case measure => simp [intOf]; omega
          · have g1 : decide (0 < v) = false := by simpa using hm
            have hv0 : v = 0 := by omega
            have hcell : cellB h k most v = 32 := by
              unfold cellB
              rw [if_neg]
              rintro ⟨hmp, hc⟩
              have h5 : (1 : Int) * 1 ≤ (k : Int) * most := Int.mul_le_mul hki (by omega) (by omega) (by omega)
              rw [hv0, Int.zero_mul] at hc
              omega
            have Hc := Lib.hid hcell
            clear hcell hv0
            go_wp2_with fail
            go_roundw
            case rel => exact ⟨j + 1, by omega, by go_num, by rw [Ha.out.2, Ht.out, Hc.out], x2, B⟩
            case measure => simp [intOf]; omega
        · have hjn' : j = n := by omega
          subst hjn'
          have hlen : (lineL ns h k most).length = j := by simp [lineL, Hh.out.1]
          rw [List.take_of_length_le (by omega)]
          have hsz2 : (⟨(lineL ns h k most).toArray⟩ : ByteArray).size ≤ 9223372036854775807 := by
            show (lineL ns h k most).toArray.size ≤ _
            simp only [List.size_toArray, hlen]
            omega
          have htl := trimRightB_le (lineL ns h k most) 32
          rw [hlen] at htl
          have hno : ¬ (9223372036854775807 < (Lib.trimRightB (lineL ns h k most) 32).length + 1) := by omega
          have htx := textL_le ns h most i
          have htx2 : i * (ns.length + 1) ≤ 64 * 1025 := Nat.mul_le_mul (by omega) (by rw [Hh.out.1]; omega)
          have hno2 : ¬ (9223372036854775807 < (textL ns h most i).length + ((Lib.trimRightB (lineL ns h k most) 32).length + 1)) := by omega
          have hcat : (⟨(Lib.trimRightB (lineL ns h k most) 32).toArray⟩ ++ ⟨#[10]⟩ : ByteArray) = ⟨(rowL ns h k most).toArray⟩ := str_add _ [10]
          have hct2 := str_add (textL ns h most i) (rowL ns h k most)
          have Hcat := Lib.hid (And.intro hcat hct2)
          clear hcat hct2 htl htx htx2
          go_wp2_with fail
          refine (Tryd.strings_TrimRight_one ⟨(lineL ns h k most).toArray⟩ 32 (by decide) _ hsz2).mono ?_
          rintro e wx ⟨rfl, rfl⟩
          go_wp2_with fail
          go_roundw
          case rel => exact ⟨i + 1, by omega, by have := Hk.out; simp; omega, by rw [Hcat.out.1, Hcat.out.2, textL, ← Hk.out], x2, B⟩
          case measure => simp [intOf]; omega
    · have hih : i = h := by omega
      subst hih
      go_wp2_with fail
      go_ret2
      exact ⟨rfl, B⟩
end Go.Proofs.YtjicgbpnplmpbaaDoor
