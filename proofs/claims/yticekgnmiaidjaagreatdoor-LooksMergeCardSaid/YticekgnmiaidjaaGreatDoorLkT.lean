/- dyeref1: Merge's comparison of grades, SameLook. -/
import Derived.Test.YticekgnmiaidjaaGreatDoorLkJ
import Derived.Test.YticekgnmiaidjaaGreatDoorLkD
import Derived.Test.YticekgnmiaidjaaGreatDoorLkM
namespace Go.Proofs.YticekgnmiaidjaaGreatDoor

section
open Go.RowKit Go.Lib

theorem SlL.row {W w : World} {v : Value} {rows : List Rw} (h : SlL W v rows) (hb : Below W.heap.size W w) {k : Nat} {r : Rw} (hr : rows[k]? = some r) : ∃ b o c ag ng cg, v = .slice (some ⟨b, o, none⟩) rows.length c ∧ w.cell? ⟨b, o + k * 2, none⟩ = some (.string r.1) ∧ w.cell? ⟨b, o + k * 2 + 1, none⟩ = some (.slice ag ng cg) ∧ SlG W (.slice ag ng cg) r.2 := by
  obtain ⟨a, c, rfl, _, _, h0 | ⟨b, o, rfl, hl, hR⟩⟩ := h
  · rw [h0] at hr; simp at hr
  · obtain ⟨h1, gv, h2, h3⟩ := hR k r hr
    obtain ⟨ag, cg, rfl, _⟩ := id h3
    exact ⟨b, o, c, ag, r.2.length, cg, rfl, cell_belowF hb h1, cell_belowF hb h2, h3⟩
set_option maxRecDepth 100000 in
set_option maxHeartbeats 2000000 in
theorem ref_isShot (x s : ByteArray) (ag : Option Addr) (ng cg : Nat) {p : Nat} {T : TypeId} (W : World) (hp : Bx W p T #[.string s]) :
    Calls Tryz.prog 106 #[.agg #[.string x, .slice ag ng cg], .pointer (some ⟨p, 0, none⟩)] W fun e w' => e = .returned (.bool (x.toList == s.toList)) ∧ Below W.heap.size W w' := by
  go_enter Tryz.func106, Tryz.ntmps106
  go_upto_region 1 with fail
  refine name_world ?_
  intro w0 hw0
  have x2 : Bx w0 W.heap.size 89 #[.string x, .slice ag ng cg] := by rw [hw0]; exact Bx.new _ _ _
  have B : Hid (Below W.heap.size W w0) := Lib.hid (by rw [hw0]; exact bnew (Below.refl _ W))
  have hp0 := hp.keep B.out
  clear hw0
  have q2 := x2.all.1 0
  have qp := hp0.all.1 0
  simp only [List.getElem?_toArray, List.getElem?_cons_zero] at q2 qp
  go_wp2_with fail
  go_ret
  exact ⟨rfl, B.out⟩
theorem text_beq {x s : ByteArray} : (x.toList == s.toList) = decide (x = s) := by
  by_cases h : x = s
  · subst h; simp
  · rw [decide_eq_false h]
    refine beq_eq_false_iff_ne.2 fun e => h ?_
    rw [ByteArray.toList_eq, ByteArray.toList_eq] at e
    exact ByteArray.ext (Array.toList_inj.1 e)
/-- i is where the shot s is, or the end. -/
structure IxR (rows : List Rw) (s : ByteArray) (i : Nat) : Prop where
  le : i ≤ rows.length
  no : ∀ (j : Nat) (r : Rw), j < i → rows[j]? = some r → r.1 ≠ s
  yes : ∀ r, rows[i]? = some r → r.1 = s
theorem IxR.get {rows : List Rw} {s : ByteArray} {i : Nat} (h : IxR rows s i) : getR rows s = (rows[i]?).map (·.2) := by
  unfold getR
  congr 1
  by_cases hi : i < rows.length
  · have e0 : rows = rows.take i ++ rows[i] :: rows.drop (i + 1) := by
      rw [← List.drop_eq_getElem_cons hi, List.take_append_drop]
    have h1 : (rows.take i).find? (fun r => decide (r.1 = s)) = none := by
      rw [List.find?_eq_none]
      intro x hx he
      obtain ⟨j, hj, e⟩ := List.mem_iff_getElem.1 hx
      rw [List.length_take] at hj
      refine h.no j x (by omega) ?_ (by simpa using he)
      rw [← e, List.getElem_take]
      exact List.getElem?_eq_getElem (by omega)
    have h2 := h.yes _ (List.getElem?_eq_getElem hi)
    rw [List.getElem?_eq_getElem hi]
    conv => lhs; rw [e0]
    rw [List.find?_append, h1, List.find?_cons_of_pos (by simpa using h2)]
    rfl
  · rw [List.getElem?_eq_none (by omega), List.find?_eq_none]
    intro x hx he
    obtain ⟨j, hj⟩ := List.mem_iff_getElem?.1 hx
    have := (List.getElem?_eq_some_iff.1 hj).1
    exact h.no j x (by omega) hj (by simpa using he)
set_option maxRecDepth 100000 in
set_option maxHeartbeats 4000000 in
theorem index_shot (v : Value) (rows : List Rw) (s : ByteArray) {p : Nat} {T : TypeId} (W : World) (hs : SlL W v rows) (hl : rows.length ≤ 1000) (hp : Bx W p T #[.string s]) :
    Calls Tryz.prog 105 #[v, .func (.func 106) #[] #[.pointer (some ⟨p, 0, none⟩)]] W fun e w' => ∃ i : Nat, IxR rows s i ∧ e = .returned (.int .i64 (if i < rows.length then (i : Int) else -1)) ∧ Below W.heap.size W w' := by
  have HS := Lib.hid (And.intro hs hp)
  obtain ⟨a, c, rfl, _⟩ := hs
  obtain ⟨n, hn⟩ : ∃ n, rows.length = n := ⟨_, rfl⟩
  have HN := Lib.hid hn
  rw [hn] at HS hl ⊢
  clear hn hp
  go_enter Tryz.func105, Tryz.ntmps105
  go_wp2_with fail
  go_loopw [8] (fun i wr => ∃ k : Nat, k ≤ n ∧ i = .int .i64 (k : Int) ∧ Hid (Below W.heap.size W wr ∧ ∀ (j : Nat) (r : Rw), j < k → rows[j]? = some r → r.1 ≠ s)) (fun i _ => n - (RowKit.intOf i).toNat)
  case atStart => exact ⟨0, by omega, rfl, Lib.hid ⟨Below.refl _ _, fun j r hj => absurd hj (Nat.not_lt_zero _)⟩⟩
  case round =>
    obtain ⟨k, hk, rfl, HI⟩ := hrel
    by_cases hlt : k < n
    · obtain ⟨r, hr⟩ : ∃ r, rows[k]? = some r := ⟨_, List.getElem?_eq_getElem (by have := HN.out; omega)⟩
      obtain ⟨b, o, c', ag, ng, cg, he, h1, h2, h3⟩ := HS.out.1.row HI.out.1 hr
      obtain rfl : a = some ⟨b, o, none⟩ := by cases he; rfl
      obtain ⟨nm, hnm⟩ : ∃ s, r.1 = s := ⟨_, rfl⟩
      rw [hnm] at h1
      have HR := Lib.hid (And.intro hr hnm)
      have hd1 : decide ((k : Int) < (n : Int)) = true := decide_eq_true (by omega)
      clear hr hnm h3 he
      go_wp2_with fail
      refine (ref_isShot nm s ag ng cg _ (HS.out.2.keep HI.out.1)).mono ?_
      clear h1 h2
      rintro e w1 ⟨rfl, hb1⟩
      have HB1 := Lib.hid (bcall HI.out.1 hb1)
      clear hb1
      rw [text_beq]
      by_cases hb : nm = s
      · rw [decide_eq_true hb]
        have Hb := Lib.hid hb
        clear hb
        go_wp2_with fail
        go_ret
        exact ⟨k, ⟨by rw [HN.out]; exact hk, HI.out.2, fun y hy => by rw [HR.out.1] at hy; rw [← Option.some.inj hy, HR.out.2]; exact Hb.out⟩, by rw [if_pos hlt]; rfl, HB1.out⟩
      · rw [decide_eq_false hb]
        have Hb := Lib.hid hb
        clear hb
        go_wp2_with fail
        go_roundw
        case rel =>
          refine ⟨k + 1, by omega, by go_num, Lib.hid ⟨HB1.out, fun j y hj hy => ?_⟩⟩
          by_cases hjk : j = k
          · subst hjk
            rw [HR.out.1] at hy
            rw [← Option.some.inj hy, HR.out.2]; exact Hb.out
          · exact HI.out.2 j y (by omega) hy
        case measure => simp [RowKit.intOf]; omega
    · obtain rfl : k = n := by omega
      go_wp2_with fail
      go_ret
      exact ⟨k, ⟨by rw [HN.out]; exact Nat.le_refl _, HI.out.2, fun y hy => by have := (List.getElem?_eq_some_iff.1 hy).1; have := HN.out; omega⟩, by rw [if_neg (by omega)]; rfl, HI.out.1⟩
set_option maxRecDepth 100000 in
set_option maxHeartbeats 4000000 in
theorem ref_grades (v : Value) (rows : List Rw) (s : ByteArray) (W0 W : World) (h0 : SlL W0 v rows) (hB : Below W0.heap.size W0 W) (hl : rows.length ≤ 1000) (io : Bool) (hio : (getR rows s).isSome = io) :
    Calls Tryz.prog 46 #[.agg #[v], .string s] W fun e w' => ∃ a n c, e = .returned (.tuple #[.slice a n c, .bool io]) ∧ (∀ gs, getR rows s = some gs → SlG W0 (.slice a n c) gs) ∧ Below W.heap.size W w' := by
  have h := h0.keep hB
  have H0 := Lib.hid (And.intro h0 (And.intro hB hio))
  have HS := Lib.hid h
  clear h0 hB hio
  obtain ⟨a, c, rfl, _⟩ := h
  obtain ⟨n, hn⟩ : ∃ n, rows.length = n := ⟨_, rfl⟩
  have HN := Lib.hid hn
  rw [hn] at HS hl ⊢
  clear hn
  go_enter Tryz.func46, Tryz.ntmps46
  go_upto_region 1 with fail
  refine name_world ?_
  intro W1 hW1
  have hs1 : (W.alloc (.cells #[.slice a n c] 57)).heap.size = W.heap.size + 1 := Array.size_push _
  have X2 : Hid (Bx W1 W.heap.size 57 #[.slice a n c]) := Lib.hid (by rw [hW1]; exact (Bx.new _ _ _).keep (bnew (Below.refl _ _)))
  have X3 : Hid (Bx W1 (W.heap.size + 1) 9 #[.string s]) := Lib.hid (by rw [hW1, ← hs1]; exact Bx.new _ _ _)
  have HW : Hid (Below W.heap.size W W1) := Lib.hid (by rw [hW1]; exact bnew (bnew (ob := .cells #[.slice a n c] 57) (Below.refl _ W)))
  try rw [hs1]
  obtain ⟨p2, hp2⟩ : ∃ p, W.heap.size = p := ⟨_, rfl⟩
  obtain ⟨p3, hp3⟩ : ∃ p, p2 + 1 = p := ⟨_, rfl⟩
  have HP := Lib.hid (And.intro hp2 hp3)
  rw [hp2] at X2 X3
  rw [hp3] at X3
  try rw [hp2]
  try rw [hp3]
  clear hW1 hp2 hp3 hs1
  have q0 := X2.out.all.1 0
  simp only [List.getElem?_toArray, List.getElem?_cons_zero] at q0
  go_wp2_with fail
  refine (index_shot _ rows s W1 (HS.out.keep HW.out) (by rw [HN.out]; exact hl) X3.out).mono ?_
  rintro e w2 ⟨i, hI, rfl, hb2⟩
  have HIX := Lib.hid hI
  have HW2 := Lib.hid (bcall HW.out hb2)
  have X2b := Lib.hid (X2.out.keep hb2)
  rw [HN.out]
  clear q0 hb2
  by_cases hi : i < n
  · rw [if_pos hi]
    clear hI
    obtain ⟨r, hr⟩ : ∃ r, rows[i]? = some r := ⟨_, List.getElem?_eq_getElem (by have := HN.out; omega)⟩
    obtain ⟨b, o, c', ag, ng, cg, he, h1, h2, h3⟩ := H0.out.1.row (H0.out.2.1.trans (HW2.out.mono H0.out.2.1.size)) hr
    obtain rfl : a = some ⟨b, o, none⟩ := by cases he; rfl
    have HG : Hid (getR rows s = some r.2 ∧ SlG W0 (.slice ag ng cg) r.2) := Lib.hid ⟨by rw [HIX.out.get, hr]; rfl, h3⟩
    clear he h3 h1 hr
    have q1 := X2b.out.all.1 0
    simp only [List.getElem?_toArray, List.getElem?_cons_zero] at q1
    have hd : decide ((i : Int) < 0) = false := decide_eq_false (by omega)
    go_wp2_with fail
    go_ret2
    exact ⟨ag, ng, cg, by rw [← H0.out.2.2, HG.out.1]; rfl, fun gs hgs => (by rw [HG.out.1] at hgs; rw [← Option.some.inj hgs]; exact HG.out.2), HW2.out⟩
  · rw [if_neg hi]
    have HG : Hid (getR rows s = none) := Lib.hid (by rw [hI.get, List.getElem?_eq_none (by have := HN.out; omega)]; rfl)
    clear hI
    go_wp2_with fail
    go_ret2
    exact ⟨none, 0, 0, by rw [← H0.out.2.2, HG.out]; rfl, fun gs hgs => (by rw [HG.out] at hgs; cases hgs), HW2.out⟩
end

section
open Go.RowKit Go.Lib

abbrev Lk := Value × List Rw
def nmL (l : Lk) : List ByteArray := l.2.map (·.1)
set_option maxRecDepth 100000 in
set_option maxHeartbeats 8000000 in
theorem ref_shots (ls : List Lk) (g c : Nat) (W : World) (hg : ∀ (j : Nat) (l : Lk), ls[j]? = some l → W.cell? ⟨g, j, none⟩ = some l.1 ∧ SlL W l.1 l.2) (hl : ls.length ≤ 3) (hs : ∀ l ∈ ls, l.2.length ≤ 1000) :
    Calls Tryz.prog 45 #[.slice (some ⟨g, 0, none⟩) ls.length c] W fun e w' => ∃ v, e = .returned v ∧ OwnS W.heap.size w' v (allS (ls.flatMap nmL)) ∧ Below W.heap.size W w' := by
  have HG := Lib.hid (And.intro hg hs)
  obtain ⟨n, hn⟩ : ∃ n, ls.length = n := ⟨_, rfl⟩
  have HN := Lib.hid hn
  rw [hn] at hl ⊢
  clear hg hs hn
  go_enter Tryz.func45, Tryz.ntmps45
  go_wp2_with fail
  go_loopw [3, 10] (fun v i wr => ∃ (k : Nat) (ks : List ByteArray), k ≤ n ∧ i = .int .i64 (k : Int) ∧ OwnS W.heap.size wr v ks ∧ Hid (Below W.heap.size W wr ∧ ks = (ls.take k).flatMap nmL ∧ ks.length ≤ 1000 * k)) (fun _ i _ => n - (RowKit.intOf i).toNat)
  case atStart => exact ⟨0, [], Nat.zero_le _, rfl, World.ownsRow_nil _ _ _ _, Lib.hid ⟨Below.refl _ _, rfl, Nat.zero_le _⟩⟩
  case round =>
    obtain ⟨k, ks, hk, rfl, own, HB⟩ := hrel
    by_cases hlt : k < n
    · obtain ⟨l, hlk⟩ : ∃ l, ls[k]? = some l := ⟨_, List.getElem?_eq_getElem (by rw [HN.out]; exact hlt)⟩
      obtain ⟨hc0, hS⟩ := HG.out.1 k l hlk
      have hml := HG.out.2 l (List.mem_of_getElem? hlk)
      obtain ⟨a, ca, hv, _⟩ := id hS
      obtain ⟨m, hm⟩ : ∃ m, l.2.length = m := ⟨_, rfl⟩
      rw [hm] at hv hml
      have c0 : wr.cell? ⟨g, k, none⟩ = some (.slice a m ca) := by rw [← hv]; exact cell_belowF HB.out.1 hc0
      have HS : Hid (SlL W (.slice a m ca) l.2) := Lib.hid (by rw [← hv]; exact hS)
      have HK := Lib.hid (And.intro hlk hm)
      have hd1 : decide ((k : Int) < (n : Int)) = true := decide_eq_true (by omega)
      have hkn : (k : Int) < (n : Int) := by omega
      clear hc0 hS hv hlk hm
      go_upto_region 5 with fail
      refine name_world ?_
      intro W1 hW1
      have X5 : Hid (Bx W1 wr.heap.size 57 #[.slice a m ca]) := Lib.hid (by rw [hW1]; exact Bx.new _ _ _)
      have own1 : OwnS W.heap.size W1 u3 ks := by rw [hW1]; exact own.keep (bnew (Below.refl _ _))
      have B1 : Hid (Below W.heap.size W W1) := Lib.hid (by rw [hW1]; exact bnew HB.out.1)
      have HP := Lib.hid HB.out.2
      obtain ⟨p5, hp5⟩ : ∃ p, wr.heap.size = p := ⟨_, rfl⟩
      rw [hp5] at X5 ⊢
      have q0 := X5.out.all.1 0
      simp only [List.getElem?_toArray, List.getElem?_cons_zero] at q0
      clear hW1 hp5 own HB c0 hd1 hkn X5
      clear wr
      go_wp2_with fail
      clear q0
      go_loopw [3, 17] (fun v i wr => ∃ k2 : Nat, k2 ≤ m ∧ i = .int .i64 (k2 : Int) ∧ OwnS W.heap.size wr v (ks ++ (l.2.take k2).map (·.1)) ∧ Hid (Below W.heap.size W wr)) (fun _ i _ => m - (RowKit.intOf i).toNat)
      case atStart => exact ⟨0, Nat.zero_le _, rfl, by rw [List.take_zero, List.map_nil, List.append_nil]; exact own1, B1⟩
      case round =>
        obtain ⟨k2, hk2, rfl, own, B2⟩ := hrel
        by_cases hlt2 : k2 < m
        · obtain ⟨r, hr⟩ : ∃ r, l.2[k2]? = some r := ⟨_, List.getElem?_eq_getElem (by rw [HK.out.2]; exact hlt2)⟩
          obtain ⟨b, o, c', ag, ng, cg, he, h1, h2, _⟩ := HS.out.row B2.out hr
          obtain rfl : a = some ⟨b, o, none⟩ := by cases he; rfl
          obtain ⟨nm, hnm⟩ : ∃ s, r.1 = s := ⟨_, rfl⟩
          rw [hnm] at h1
          obtain ⟨L, hL⟩ : ∃ L, ks ++ (l.2.take k2).map (·.1) = L := ⟨_, rfl⟩
          have HL : Hid (ks ++ (l.2.take (k2 + 1)).map (·.1) = L ++ [nm] ∧ L.length ≤ 1000000) := Lib.hid ⟨by rw [← hL, List.take_add_one, hr, List.map_append, ← List.append_assoc, ← hnm]; rfl, by
            have h1 := HP.out.2
            rw [← hL, List.length_append, List.length_map, List.length_take]; omega⟩
          rw [hL] at own
          have hd2 : decide ((k2 : Int) < (m : Int)) = true := decide_eq_true (by omega)
          have hkm : (k2 : Int) < (m : Int) := by omega
          clear he hr hnm hL own1
          go_upto_region 8 with fail
          refine name_world ?_
          intro W3 hW3
          have X7 : Hid (Bx W3 wr.heap.size 89 #[.string nm, .slice ag ng cg]) := Lib.hid (by rw [hW3]; exact Bx.new _ _ _)
          have own3 : OwnS W.heap.size W3 u3 L := by rw [hW3]; exact own.keep (bnew (Below.refl _ _))
          have B3 : Hid (Below W.heap.size W W3) := Lib.hid (by rw [hW3]; exact bnew B2.out)
          obtain ⟨p7, hp7⟩ : ∃ p, wr.heap.size = p := ⟨_, rfl⟩
          rw [hp7] at X7 ⊢
          have r0 := X7.out.all.1 0
          simp only [List.getElem?_toArray, List.getElem?_cons_zero] at r0
          clear hW3 hp7 own h1 h2 hd2 hkm X7 B2
          clear wr
          go_wp2_with (at_builtin; refine str_append (B := W.heap.size) (p := nm) rfl (.tmp 21) (.tmp 24) rfl rfl W3.heap.size rfl (own3.keep (bnew (Below.refl _ _))) (Bx.new _ _ _) (by have := HL.out.2; omega) (by have := B3.out.size; simp; omega) ?_)
          intro v' w2 own2 ap
          have B4 : Hid (Below W.heap.size W w2) := Lib.hid (ap.below (B3.out.alloc B3.out.size _) (Nat.le_refl _) (by have := B3.out.size; simp; omega) (fun g hg => (OwnS.base own3 g hg).1))
          clear own3 ap r0 B3
          go_wp2_with fail
          go_roundw
          case rel => exact ⟨k2 + 1, by omega, by go_num, by rw [HL.out.1]; exact own2, B4⟩
          case measure => simp [RowKit.intOf]; omega
        · obtain rfl : m = k2 := by omega
          have HJ : Hid (Below W.heap.size W wr ∧ ks ++ (l.2.take m).map (·.1) = (ls.take (k + 1)).flatMap nmL ∧ (ks ++ (l.2.take m).map (·.1)).length ≤ 1000 * (k + 1)) := Lib.hid ⟨B2.out, by
            rw [List.take_add_one, HK.out.1, List.flatMap_append, ← HP.out.1, ← HK.out.2, List.take_length]
            simp [nmL], by
            have h1 := HP.out.2
            rw [List.length_append, List.length_map, List.length_take]; omega⟩
          clear own1
          go_wp2_with fail
          go_roundw
          case rel => exact ⟨k + 1, _, by omega, by go_num, own, HJ⟩
          case measure => simp [RowKit.intOf]; omega
    · obtain rfl : n = k := by omega
      have hall : Hid (ks = ls.flatMap nmL) := Lib.hid (by
        have h1 := HB.out.2.1
        rw [← HN.out, List.take_length] at h1
        exact h1)
      have HB4 := Lib.hid HB.out.1
      have hsz := HB.out.1.size
      have hkl := HB.out.2.2
      rcases own.form with ⟨rfl, rfl⟩ | ⟨g', cap, rfl, hg, hgl, hcap, _⟩
      · have hA0 : allS (ls.flatMap nmL) = [] := by rw [← hall.out]; exact cmp_nil
        have HA0 := Lib.hid hA0
        clear hA0
        go_wp2_with fail
        refine (Any.slices_Sort_string_none Tryz.lays190 none 0 _).mono ?_
        rintro e w' ⟨rfl, rfl⟩
        go_wp2_with fail
        refine (Tryz.slices_Compact_string_empty none 0 _).mono ?_
        rintro e w' ⟨rfl, rfl⟩
        go_wp2_with fail
        go_ret
        exact ⟨_, rfl, by rw [HA0.out]; exact World.ownsRow_nil _ _ _ _, HB4.out⟩
      · have hc := sort_reels own (by omega)
        clear own
        go_wp2_with fail
        refine hc.mono ?_
        rintro e w3 ⟨rfl, own3, ho3⟩
        have B3 := Lib.hid (oth_below2 HB4.out ho3 (by omega) (Nat.le_refl _))
        have hln : (srtS ks).length = ks.length := srtS_len ks
        have hc2 := compact_texts own3 (by omega)
        clear hc own3 ho3
        go_wp2_with fail
        refine hc2.mono ?_
        rintro e w4 ⟨rfl, own4, ho4⟩
        have B4 := Lib.hid (oth_below2 B3.out ho4 (by omega) (Nat.le_refl _))
        have HO4 := Lib.hid own4
        clear hc2 own4 ho4
        go_wp2_with fail
        go_ret
        refine ⟨_, rfl, ?_, B4.out⟩
        rw [← hall.out]
        exact HO4.out
end

section
open Go.RowKit Go.Lib

set_option maxRecDepth 100000 in
set_option maxHeartbeats 4000000 in
theorem ref_sameM (o p : Option (List Gd)) (a1 : Option Addr) (n1 c1 : Nat) (a2 : Option Addr) (n2 c2 : Nat) (W : World) (E : EnvF W) (h1 : ∀ gs, o = some gs → SlG W (.slice a1 n1 c1) gs) (h2 : ∀ gs, p = some gs → SlG W (.slice a2 n2 c2) gs)
    (r1 : ∀ gs, o = some gs → RightL gs) (r2 : ∀ gs, p = some gs → RightL gs) (bo bp : Bool) (hbo : o.isSome = bo) (hbp : p.isSome = bp) :
    Calls Tryz.prog 47 #[.slice a1 n1 c1, .bool bo, .slice a2 n2 c2, .bool bp] W fun e w' => e = .returned (.bool (simO o p)) ∧ Below W.heap.size W w' := by
  subst hbo hbp
  have HG := Lib.hid (And.intro E (And.intro h1 (And.intro h2 (And.intro r1 r2))))
  clear E h1 h2 r1 r2
  cases o with
  | none =>
    cases p with
    | none =>
      show Calls _ _ #[.slice a1 n1 c1, .bool false, .slice a2 n2 c2, .bool false] W _
      go_enter Tryz.func47, Tryz.ntmps47
      go_wp2_with fail
      go_ret
      exact ⟨rfl, Below.refl _ _⟩
    | some B =>
      show Calls _ _ #[.slice a1 n1 c1, .bool false, .slice a2 n2 c2, .bool true] W _
      go_enter Tryz.func47, Tryz.ntmps47
      go_wp2_with fail
      go_ret
      exact ⟨rfl, Below.refl _ _⟩
  | some A =>
    cases p with
    | none =>
      show Calls _ _ #[.slice a1 n1 c1, .bool true, .slice a2 n2 c2, .bool false] W _
      go_enter Tryz.func47, Tryz.ntmps47
      go_wp2_with fail
      go_ret
      exact ⟨rfl, Below.refl _ _⟩
    | some B =>
      show Calls _ _ #[.slice a1 n1 c1, .bool true, .slice a2 n2 c2, .bool true] W _
      go_enter Tryz.func47, Tryz.ntmps47
      go_wp2_with fail
      refine (ref_SameGrades _ _ A B _ HG.out.1 (HG.out.2.1 A rfl) (HG.out.2.2.1 B rfl) (HG.out.2.2.2.1 A rfl) (HG.out.2.2.2.2 B rfl)).mono ?_
      rintro e w2 ⟨rfl, hb2⟩
      have HB2 := Lib.hid hb2
      clear hb2
      obtain ⟨q, hq⟩ : ∃ q, simG A B = q := ⟨_, rfl⟩
      have HQ : Hid (simO (some A) (some B) = q) := Lib.hid hq
      rw [hq]
      clear hq
      go_wp2_with fail
      go_ret
      exact ⟨by rw [HQ.out]; rfl, HB2.out⟩
theorem keyR_beq (x y : ByteArray) (A B : List Gd) : decide (keyR (x, A) = keyR (y, B)) = (decide (x = y) && simG A B) := by
  by_cases h : x = y
  · subst h
    cases hs : simG A B
    · rw [Bool.and_false, decide_eq_false]
      intro e
      have e2 : linesG A = linesG B := congrArg Prod.snd e
      rw [(simG_iff A B).2 e2] at hs
      cases hs
    · rw [decide_eq_true rfl, decide_eq_true]
      · rfl
      · unfold keyR; rw [(simG_iff A B).1 hs]
  · rw [decide_eq_false h, Bool.false_and, decide_eq_false]
    intro e
    exact h (congrArg Prod.fst e)
set_option maxRecDepth 100000 in
set_option maxHeartbeats 4000000 in
theorem ref_sameRow (x y : ByteArray) (A B : List Gd) (a1 : Option Addr) (n1 c1 : Nat) (a2 : Option Addr) (n2 c2 : Nat) (W : World) (E : EnvF W) (h1 : SlG W (.slice a1 n1 c1) A) (h2 : SlG W (.slice a2 n2 c2) B) (r1 : RightL A) (r2 : RightL B) :
    Calls Tryz.prog 50 #[.agg #[.string x, .slice a1 n1 c1], .agg #[.string y, .slice a2 n2 c2]] W fun e w' => e = .returned (.bool (decide (keyR (x, A) = keyR (y, B)))) ∧ Below W.heap.size W w' := by
  obtain ⟨rv, hrv⟩ : ∃ rv, decide (keyR (x, A) = keyR (y, B)) = rv := ⟨_, rfl⟩
  rw [hrv]
  rw [keyR_beq] at hrv
  have HRV := Lib.hid hrv
  clear hrv
  have HG := Lib.hid (And.intro E (And.intro h1 (And.intro h2 (And.intro r1 r2))))
  clear E h1 h2 r1 r2
  go_enter Tryz.func50, Tryz.ntmps50
  go_upto_region 1 with fail
  refine name_world ?_
  intro W1 hW1
  have hs1 : (W.alloc (.cells #[.string x, .slice a1 n1 c1] 89)).heap.size = W.heap.size + 1 := Array.size_push _
  have X2 : Hid (Bx W1 W.heap.size 89 #[.string x, .slice a1 n1 c1]) := Lib.hid (by rw [hW1]; exact (Bx.new _ _ _).keep (bnew (Below.refl _ _)))
  have X3 : Hid (Bx W1 (W.heap.size + 1) 89 #[.string y, .slice a2 n2 c2]) := Lib.hid (by rw [hW1, ← hs1]; exact Bx.new _ _ _)
  have HW : Hid (Below W.heap.size W W1) := Lib.hid (by rw [hW1]; exact bnew (bnew (ob := .cells #[.string x, .slice a1 n1 c1] 89) (Below.refl _ W)))
  try rw [hs1]
  obtain ⟨p2, hp2⟩ : ∃ p, W.heap.size = p := ⟨_, rfl⟩
  obtain ⟨p3, hp3⟩ : ∃ p, p2 + 1 = p := ⟨_, rfl⟩
  rw [hp2] at X2 X3
  rw [hp3] at X3
  try rw [hp2]
  try rw [hp3]
  clear hW1 hp3 hs1
  have q0 := X2.out.all.1 0
  have q1 := X2.out.all.1 1
  have r0 := X3.out.all.1 0
  have r1 := X3.out.all.1 1
  simp only [List.getElem?_toArray, List.getElem?_cons_zero, List.getElem?_cons_succ] at q0 q1 r0 r1
  by_cases hxy : x = y
  · have hb : (x.toList == y.toList) = true := by rw [text_beq, decide_eq_true hxy]
    have HV : Hid (simG A B = rv) := Lib.hid (by rw [← HRV.out, decide_eq_true hxy, Bool.true_and])
    clear hxy hp2
    go_wp2_with fail
    refine (ref_SameGrades _ _ A B _ (HG.out.1.below HW.out) (HG.out.2.1.keep HW.out) (HG.out.2.2.1.keep HW.out) HG.out.2.2.2.1 HG.out.2.2.2.2).mono ?_
    rintro e w2 ⟨rfl, hb2⟩
    have HB2 := Lib.hid (bcall HW.out hb2)
    clear hb2 hb q0 q1 r0 r1
    rw [HV.out]
    go_wp2_with fail
    go_ret
    exact ⟨rfl, HB2.out⟩
  · have hb : (x.toList == y.toList) = false := by rw [text_beq, decide_eq_false hxy]
    have HV : Hid (rv = false) := Lib.hid (by rw [← HRV.out, decide_eq_false hxy, Bool.false_and])
    clear hxy hp2
    go_wp2_with fail
    go_ret
    exact ⟨by rw [HV.out]; rfl, HW.out⟩
set_option maxRecDepth 100000 in
set_option maxHeartbeats 8000000 in
theorem equal_rows (va vb : Value) (X Y : List Rw) (W : World) (E : EnvF W) (hA : SlL W va X) (hB : SlL W vb Y) (rX : ∀ r ∈ X, RightL r.2) (rY : ∀ r ∈ Y, RightL r.2) (lX : X.length ≤ 1000) :
    Calls Tryz.prog 49 #[va, vb, .func (.func 50) #[] #[]] W fun e w' => e = .returned (.bool (sameL X Y)) ∧ Below W.heap.size W w' := by
  have HS := Lib.hid (And.intro E (And.intro hA (And.intro hB (And.intro rX rY))))
  obtain ⟨a1, c1, rfl, _⟩ := hA
  obtain ⟨a2, c2, rfl, _⟩ := hB
  obtain ⟨n, hn⟩ : ∃ n, X.length = n := ⟨_, rfl⟩
  obtain ⟨m, hm⟩ : ∃ m, Y.length = m := ⟨_, rfl⟩
  have HN := Lib.hid (And.intro hn hm)
  rw [hn] at HS lX ⊢
  rw [hm] at HS ⊢
  clear hn hm E rX rY
  have hcf : ∀ (args : Array Value) (u : World), (callFunc 50 args).run Tryz.prog u = .ok (.enter 50 args) u := fun args u => enters Tryz.func50 (by kernel_rfl) (by kernel_rfl) _ _
  by_cases hnm : n = m
  · have Hnm := Lib.hid hnm
    subst hnm
    go_enter Tryz.func49, Tryz.ntmps49
    go_wp2_with fail
    go_loopw [17] (fun s wr => ∃ k : Nat, k ≤ n ∧ s = .int .i64 (k : Int) ∧ Hid (Below W.heap.size W wr ∧ ∀ (j : Nat) (x y : Rw), j < k → X[j]? = some x → Y[j]? = some y → keyR x = keyR y)) (fun s _ => n - (RowKit.intOf s).toNat)
    case atStart => exact ⟨0, by omega, rfl, Lib.hid ⟨Below.refl _ _, fun j x y hj => absurd hj (Nat.not_lt_zero _)⟩⟩
    case round =>
      obtain ⟨k, hk, rfl, HI⟩ := hrel
      by_cases hlt : k < n
      · obtain ⟨x, hx⟩ : ∃ x, X[k]? = some x := ⟨_, List.getElem?_eq_getElem (by have := HN.out.1; omega)⟩
        obtain ⟨y, hy⟩ : ∃ y, Y[k]? = some y := ⟨_, List.getElem?_eq_getElem (by have := HN.out.2; omega)⟩
        obtain ⟨b1, o1, c1', g1, m1, d1, he1, hx0, hx1, hx2⟩ := HS.out.2.1.row HI.out.1 hx
        obtain ⟨b2, o2, c2', g2, m2, d2, he2, hy0, hy1, hy2⟩ := HS.out.2.2.1.row HI.out.1 hy
        obtain rfl : a1 = some ⟨b1, o1, none⟩ := by cases he1; rfl
        obtain rfl : a2 = some ⟨b2, o2, none⟩ := by cases he2; rfl
        have hrx := HS.out.2.2.2.1 x (List.mem_of_getElem? hx)
        have hry := HS.out.2.2.2.2 y (List.mem_of_getElem? hy)
        obtain ⟨sx, A⟩ := x
        obtain ⟨sy, B⟩ := y
        have HR := Lib.hid (And.intro hx (And.intro hy (And.intro hx2 (And.intro hy2 (And.intro hrx hry)))))
        have hd1 : decide ((k : Int) < (n : Int)) = true := decide_eq_true (by omega)
        simp only at hx0 hx1 hy0 hy1
        clear he1 he2 hx hy hx2 hy2 hrx hry
        go_upto_region 6 with fail
        refine name_world ?_
        intro W1 hW1
        have X1 : Hid (Bx W1 wr.heap.size 89 #[.string sx, .slice g1 m1 d1]) := Lib.hid (by rw [hW1]; exact Bx.new _ _ _)
        have B1 : Hid (Below wr.heap.size wr W1) := Lib.hid (by rw [hW1]; exact bnew (Below.refl _ _))
        obtain ⟨p1, hp1⟩ : ∃ p, wr.heap.size = p := ⟨_, rfl⟩
        rw [hp1] at X1 ⊢
        have z0 := cell_belowF B1.out hy0
        have z1 := cell_belowF B1.out hy1
        clear hW1 hp1 hx0 hx1 hy0 hy1
        go_upto_region 7 with fail
        refine name_world ?_
        intro W2 hW2
        have X2 : Hid (Bx W2 W1.heap.size 89 #[.string sy, .slice g2 m2 d2]) := Lib.hid (by rw [hW2]; exact Bx.new _ _ _)
        have B2 : Hid (Below wr.heap.size wr W2) := Lib.hid (by rw [hW2]; exact bnew B1.out)
        have X1b : Hid (Bx W2 p1 89 #[.string sx, .slice g1 m1 d1]) := Lib.hid (by rw [hW2]; exact X1.out.alloc _)
        obtain ⟨p2, hp2⟩ : ∃ p, W1.heap.size = p := ⟨_, rfl⟩
        rw [hp2] at X2 ⊢
        clear hW2 hp2 z0 z1
        have q0 := X1b.out.all.1 0
        have q1 := X1b.out.all.1 1
        have r0 := X2.out.all.1 0
        have r1 := X2.out.all.1 1
        simp only [List.getElem?_toArray, List.getElem?_cons_zero, List.getElem?_cons_succ] at q0 q1 r0 r1
        have HBW : Hid (Below W.heap.size W W2) := Lib.hid (HI.out.1.trans (B2.out.mono HI.out.1.size))
        go_wp2_with fail
        refine (ref_sameRow sx sy A B g1 m1 d1 g2 m2 d2 _ (HS.out.1.below HBW.out) (HR.out.2.2.1.keep HBW.out) (HR.out.2.2.2.1.keep HBW.out) HR.out.2.2.2.2.1 HR.out.2.2.2.2.2).mono ?_
        rintro e w5 ⟨rfl, hb5⟩
        have HB5 := Lib.hid (bcall HBW.out hb5)
        clear hb5 q0 q1 r0 r1
        by_cases hq : keyR (sx, A) = keyR (sy, B)
        · rw [decide_eq_true hq]
          have HQ := Lib.hid hq
          clear hq
          go_wp2_with fail
          go_roundw
          case rel =>
            refine ⟨k + 1, by omega, by go_num, Lib.hid ⟨HB5.out, fun j x y hj hx hy => ?_⟩⟩
            by_cases hjk : j = k
            · subst hjk
              rw [HR.out.1] at hx
              rw [HR.out.2.1] at hy
              rw [← Option.some.inj hx, ← Option.some.inj hy]; exact HQ.out
            · exact HI.out.2 j x y (by omega) hx hy
          case measure => simp [RowKit.intOf]; omega
        · rw [decide_eq_false hq]
          have HV : Hid (sameL X Y = false) := Lib.hid (decide_eq_false fun e => hq (by
            have h1 := congrArg (fun l => l[k]?) e
            simp only [List.getElem?_map, HR.out.1, HR.out.2.1, Option.map_some] at h1
            exact Option.some.inj h1))
          clear hq
          go_wp2_with fail
          go_ret
          exact ⟨by rw [HV.out]; rfl, HB5.out⟩
      · obtain rfl : n = k := by omega
        have HV : Hid (sameL X Y = true) := Lib.hid (decide_eq_true (by
          refine List.ext_getElem? fun j => ?_
          rw [List.getElem?_map, List.getElem?_map]
          by_cases hj : j < n
          · have h1 := List.getElem?_eq_getElem (l := X) (i := j) (by have := HN.out.1; omega)
            have h2 := List.getElem?_eq_getElem (l := Y) (i := j) (by have := HN.out.2; omega)
            rw [h1, h2, Option.map_some, Option.map_some, HI.out.2 j _ _ hj h1 h2]
          · rw [List.getElem?_eq_none (by have := HN.out.1; omega), List.getElem?_eq_none (by have := HN.out.2; omega)]))
        go_wp2_with fail
        go_ret
        exact ⟨by rw [HV.out]; rfl, HI.out.1⟩
  · have HV : Hid (sameL X Y = false) := Lib.hid (decide_eq_false fun e => hnm (by
      have h1 := congrArg List.length e
      rw [List.length_map, List.length_map, HN.out.1, HN.out.2] at h1
      exact h1))
    have hne : ((n : Int) == (m : Int)) = false := beq_eq_false_iff_ne.2 (by omega)
    go_enter Tryz.func49, Tryz.ntmps49
    go_wp2_with fail
    go_ret
    exact ⟨by rw [HV.out]; rfl, Below.refl _ _⟩
set_option maxRecDepth 100000 in
set_option maxHeartbeats 4000000 in
theorem ref_SameLook (va vb : Value) (X Y : List Rw) (W : World) (E : EnvF W) (hA : SlL W va X) (hB : SlL W vb Y) (rX : ∀ r ∈ X, RightL r.2) (rY : ∀ r ∈ Y, RightL r.2) (lX : X.length ≤ 1000) :
    Calls Tryz.prog 22 #[.agg #[va], .agg #[vb]] W fun e w' => e = .returned (.bool (sameL X Y)) ∧ Below W.heap.size W w' := by
  have HS := Lib.hid (And.intro E (And.intro hA (And.intro hB (And.intro rX (And.intro rY lX)))))
  obtain ⟨a1, c1, rfl, _⟩ := hA
  obtain ⟨a2, c2, rfl, _⟩ := hB
  obtain ⟨n, hn⟩ : ∃ n, X.length = n := ⟨_, rfl⟩
  obtain ⟨m, hm⟩ : ∃ m, Y.length = m := ⟨_, rfl⟩
  have HN := Lib.hid (And.intro hn hm)
  rw [hn, hm]
  clear hn hm E rX rY lX
  go_enter Tryz.func22, Tryz.ntmps22
  go_upto_region 1 with fail
  refine name_world ?_
  intro W1 hW1
  have hs1 : (W.alloc (.cells #[.slice a1 n c1] 57)).heap.size = W.heap.size + 1 := Array.size_push _
  have X2 : Hid (Bx W1 W.heap.size 57 #[.slice a1 n c1]) := Lib.hid (by rw [hW1]; exact (Bx.new _ _ _).keep (bnew (Below.refl _ _)))
  have X3 : Hid (Bx W1 (W.heap.size + 1) 57 #[.slice a2 m c2]) := Lib.hid (by rw [hW1, ← hs1]; exact Bx.new _ _ _)
  have HW : Hid (Below W.heap.size W W1) := Lib.hid (by rw [hW1]; exact bnew (bnew (ob := .cells #[.slice a1 n c1] 57) (Below.refl _ W)))
  try rw [hs1]
  obtain ⟨p2, hp2⟩ : ∃ p, W.heap.size = p := ⟨_, rfl⟩
  obtain ⟨p3, hp3⟩ : ∃ p, p2 + 1 = p := ⟨_, rfl⟩
  have HP := Lib.hid (And.intro hp2 hp3)
  rw [hp2] at X2 X3
  rw [hp3] at X3
  try rw [hp2]
  try rw [hp3]
  clear hW1 hp2 hp3 hs1
  have q0 := X2.out.all.1 0
  have r0 := X3.out.all.1 0
  simp only [List.getElem?_toArray, List.getElem?_cons_zero] at q0 r0
  go_wp2_with fail
  refine (equal_rows _ _ X Y _ (HS.out.1.below HW.out) (by have h := HS.out.2.1.keep HW.out; rw [HN.out.1] at h; exact h) (by have h := HS.out.2.2.1.keep HW.out; rw [HN.out.2] at h; exact h) HS.out.2.2.2.1 HS.out.2.2.2.2.1 HS.out.2.2.2.2.2).mono ?_
  rintro e w2 ⟨rfl, hb2⟩
  have HB2 := Lib.hid (bcall HW.out hb2)
  clear hb2 q0 r0
  obtain ⟨q, hq⟩ : ∃ q, sameL X Y = q := ⟨_, rfl⟩
  rw [hq]
  have HQ := Lib.hid hq
  clear hq
  go_wp2_with fail
  go_ret
  exact ⟨by rw [HQ.out]; rfl, HB2.out⟩
end
end Go.Proofs.YticekgnmiaidjaaGreatDoor
