/- conform.blanks, conform.threes, num.Integer: the words of a line, the numbers that were printed. -/
import Derived.Test.YtemlabmmafcapaaGreatDoorTfC
namespace Go.Proofs.YtemlabmmafcapaaGreatDoor
open Go.RowKit

/-- v reads as the texts ws. -/
def SlT (w : World) (v : Value) (ws : List ByteArray) : Prop := ∃ g c, v = .slice (some ⟨g, 0, none⟩) ws.length c ∧ g < w.heap.size ∧ ∀ k, k < ws.length → w.cell? ⟨g, k, none⟩ = some (.string (ws.getD k ⟨#[]⟩))
theorem SlT.keep {w w' : World} {v : Value} {ws : List ByteArray} (h : SlT w v ws) (hb : Below w.heap.size w w') : SlT w' v ws := by
  obtain ⟨g, c, e, l, h⟩ := h
  exact ⟨g, c, e, Nat.lt_of_lt_of_le l hb.size, fun k hk => (hb.cell (p := ⟨g, k, none⟩) l).trans (h k hk)⟩
theorem enters {P : Program} {f : FuncId} {fn : Func} (hf : P.funcs[f]? = some fn) (hn : (fn.name == "runtime.NumGoroutine") = false) (hb : fn.body.isNone = false) (args : Array Value) (w : World) : (callFunc f args).run P w = .ok (.enter f args) w := by
  have h1 : fn.name ≠ "runtime.NumGoroutine" := by simpa using hn
  have h2 : ¬ fn.body = none := by intro e; rw [e] at hb; cases hb
  simp [callFunc, hf, h1, h2]
theorem enters_blank (args : Array Value) (w : World) : (callFunc 42 args).run Tryz.prog w = .ok (.enter 42 args) w := enters Tryz.func42 (by kernel_rfl) (by kernel_rfl) args w
set_option maxRecDepth 100000 in
theorem blank_gives (x : Nat) (W : World) : Calls Tryz.prog 42 #[.int .i32 (x : Int)] W fun e w' => e = .returned (.bool (blankP x)) ∧ ∃ q, w' = W.drewN q := by
  by_cases h1 : x = 32
  · subst h1
    go_enter Tryz.func42, Tryz.ntmps42
    go_wp2_with fail
    go_ret
    exact ⟨rfl, 0, rfl⟩
  · have e1 : ((x : Int) == 32) = false := by simp; omega
    by_cases h2 : x = 9
    · subst h2
      go_enter Tryz.func42, Tryz.ntmps42
      go_wp2_with fail
      go_ret
      exact ⟨rfl, 0, rfl⟩
    · have e2 : ((x : Int) == 9) = false := by simp; omega
      have hb : blankP x = false := by unfold blankP; simp [h1, h2]
      rw [hb]
      go_enter Tryz.func42, Tryz.ntmps42
      go_wp2_with fail
      go_ret
      exact ⟨rfl, 0, rfl⟩
theorem words_slT {W w : World} {g n c : Nat} {ws : List ByteArray} (h : w.ownsRow W.heap.size 9 1 (.slice (some ⟨g, 0, none⟩) n c) n (ws.map Value.string)) (hn : n = ws.length) : SlT w (.slice (some ⟨g, 0, none⟩) n c) ws := by
  subst hn
  rcases h.2 with ⟨h0, _⟩ | ⟨g', cap, cur, e1, e2, e3, e4⟩
  · cases h0
  injection e1 with e1 _ _
  injection e1 with e1
  injection e1 with e1
  subst e1
  refine ⟨g, c, rfl, (Array.getElem?_eq_some_iff.1 e3).1, fun k hk => ?_⟩
  rw [World.ownsRow.cellAt h k (by omega), List.getElem?_map]
  simp [List.getD, hk]
set_option maxRecDepth 100000 in
theorem conform_blanks (s : ByteArray) (hs : s.size ≤ 1048576) (W : World) : Calls Tryz.prog 21 #[.string s] W fun e w' => ∃ v, e = .returned v ∧ SlT w' v (Lib.goFieldsP blankP s) ∧ Below W.heap.size W w' := by
  have K := Lib.hid (fun w => Tryz.strings_FieldsFunc 42 #[] enters_blank blankP s w (by omega) (fun W' x _ => blank_gives x W'))
  go_enter Tryz.func21, Tryz.ntmps21
  go_wp2_with fail
  refine (K.out _).mono ?_
  rintro e w1 ⟨g, rfl, _, h, B⟩
  have hw := words_slT h rfl
  clear h K
  go_wp2_with fail
  go_ret
  exact ⟨_, rfl, hw, B⟩

def digC : List UInt8 := [48, 49, 50, 51, 52, 53, 54, 55, 56, 57]
theorem digC_has (c : UInt8) (h : 48 ≤ c.toNat ∧ c.toNat ≤ 57) : digC.contains c = true := by
  have h0 : ∀ n : Fin 256, (decide (48 ≤ (UInt8.ofNat n.val).toNat) && decide ((UInt8.ofNat n.val).toNat ≤ 57)) = true → digC.contains (UInt8.ofNat n.val) = true := by decide +kernel
  have := h0 ⟨c.toNat, c.toNat_lt⟩
  simp only [UInt8.ofNat_toNat] at this
  exact this (by simp [h.1, h.2])
theorem trim_digits {l : List UInt8} (h : (l.all fun c => decide (48 ≤ c.toNat) && decide (c.toNat ≤ 57)) = true) : (Lib.trimS l digC).isEmpty = true := by
  rw [List.isEmpty_iff, trim_nil, List.all_eq_true]
  intro c hc
  have h1 := List.all_eq_true.1 h c hc
  simp only [Bool.and_eq_true, decide_eq_true_eq] at h1
  exact digC_has c h1
theorem below_atoi {W w1 : World} (hw : w1 = W ∨ ∃ t, w1 = Lib.bytesWorld W 5 t) : Below W.heap.size W w1 := by
  rcases hw with rfl | ⟨t, rfl⟩
  · exact Below.refl _ _
  · exact Lib.bytesWorld_below _ _ _
set_option maxRecDepth 100000 in
set_option maxHeartbeats 2000000 in
theorem conform_threes (n : Nat) (hn : n < 1000) (s : ByteArray) (hs : s = ofL (pad3 n)) (W : World) (E : EnvT W) : Calls Tryz.prog 46 #[.string s] W fun e w' => e = .returned (.tuple #[.int .i64 (n : Int), .bool true]) ∧ Below W.heap.size W w' := by
  have hl : s.data.toList = pad3 n := by rw [hs, ofL_list]
  have hsz : s.size = 3 := by rw [hs]; rfl
  have hT := trim_digits (pad3_digits n hn)
  have ha := okI_is (pad3_read n hn)
  rw [← hl] at hT ha
  have KT := Lib.hid (fun w => Any.strings_Trim_laid Tryz.lays160 (by kernel_rfl) s ⟨digC.toArray⟩ w (by omega) (by decide) (ascii_of_all (by decide)))
  have KA := Lib.hid (fun w => Tryz.strconv_Atoi_ok s (by omega) (n : Int) ha w)
  have KP := Lib.hid (fun w E => conform_padded n hn w E)
  rw [← hs] at KP
  have hse : (s.toList == s.toList) = true := by simp
  clear hl ha hs
  go_enter Tryz.func46, Tryz.ntmps46
  go_wp2_with fail
  refine (KT.out _).mono ?_
  rintro e w1 ⟨rfl, hb1⟩
  go_wp2_with fail
  refine (KA.out _).mono ?_
  rintro e w2 ⟨rfl, hw⟩
  have B := bcall hb1 (below_atoi hw)
  clear hw hb1
  have E2 := E.below B
  go_wp2_with fail
  refine (KP.out _ E2).mono ?_
  rintro e w3 ⟨rfl, hb⟩
  have B2 := bcall B hb
  clear hb B
  go_wp2_with fail
  go_ret2
  exact ⟨rfl, B2⟩
theorem prefix_none {l : List UInt8} {c : UInt8} {r : List UInt8} (hl : l = c :: r) (hc : c ≠ 45) : Lib.trimPrefix l [45] = l := by
  subst hl
  unfold Lib.trimPrefix Lib.hasPrefix
  simp [Ne.symm hc]
set_option maxRecDepth 100000 in
set_option maxHeartbeats 2000000 in
theorem num_Integer (r : Int) (hr : rateB r = true) (s : ByteArray) (hs : s = ofL (Lib.decDigits r.toNat)) (W : World) : Calls Tryz.prog 22 #[.string s, .int .i64 9] W fun e w' => e = .returned (.tuple #[.int .i64 r, .bool true]) ∧ Below W.heap.size W w' := by
  obtain ⟨r1, r2, r3⟩ := rate_dec hr
  rw [r3] at hs
  have hl : s.data.toList = two2 r.toNat := by rw [hs, ofL_list]
  have hsz : s.size = 2 := by rw [hs]; rfl
  have hT := trim_digits (two2_digits r.toNat (by omega))
  have ha := okI_is (two2_read r.toNat (by omega) (by omega))
  rw [← hl] at hT ha
  rw [show ((r.toNat : Nat) : Int) = r by omega] at ha
  have hp : (⟨(Lib.trimPrefix s.data.toList (⟨#[45]⟩ : ByteArray).data.toList).toArray⟩ : ByteArray) = s := by
    have h1 : Lib.trimPrefix s.data.toList [45] = s.data.toList := by
      refine prefix_none (c := UInt8.ofNat (48 + r.toNat / 10)) (r := [UInt8.ofNat (48 + r.toNat % 10)]) (by rw [hl]; rfl) ?_
      intro h
      have h2 := congrArg UInt8.toNat h
      rw [u8_nat (by omega)] at h2
      have : (45 : UInt8).toNat = 45 := rfl
      omega
    rw [show (⟨#[45]⟩ : ByteArray).data.toList = [45] from rfl, h1]
  have hi0 : ∀ h : 0 < s.size, (s[0]'h).toNat = 48 + r.toNat / 10 := by
    intro h
    rw [bt_get h]
    unfold bt
    rw [hl]
    simp only [two2, List.getD_cons_zero]
    exact u8_nat (by omega)
  have KT := Lib.hid (fun w => Any.strings_Trim_laid Tryz.lays160 (by kernel_rfl) s ⟨digC.toArray⟩ w (by omega) (by decide) (ascii_of_all (by decide)))
  have KA := Lib.hid (fun w => Tryz.strconv_Atoi_ok s (by omega) r ha w)
  have KX := Lib.hid (fun w => Tryz.strings_TrimPrefix s ⟨#[45]⟩ w)
  rw [hp] at KX
  have he : s.toList.isEmpty = false := by rw [empty_of]; simp [hsz]
  have hd : (((48 + r.toNat / 10 : Nat) : Int) == 48) = false := by simp; omega
  have hm : (s.toList == [45, 48]) = false := by
    rw [Lib.toList_data, hl]
    apply Bool.eq_false_iff.2
    intro h
    have h := eq_of_beq h
    unfold two2 at h
    injection h with h _
    have h2 := congrArg UInt8.toNat h
    rw [u8_nat (by omega)] at h2
    have : (45 : UInt8).toNat = 45 := rfl
    omega
  clear hl ha hs hp r3
  go_enter Tryz.func22, Tryz.ntmps22
  go_wp2_with fail
  refine (KX.out _).mono ?_
  rintro e w0 ⟨rfl, rfl⟩
  go_wp2_with fail
  refine (KT.out _).mono ?_
  rintro e w1 ⟨rfl, hb1⟩
  go_wp2_with fail
  refine (KA.out _).mono ?_
  rintro e w2 ⟨rfl, hw⟩
  have B := bcall hb1 (below_atoi hw)
  clear hw hb1
  go_wp2_with fail
  go_quiet (fail)
  go_wp2_with fail
  go_ret2
  exact ⟨rfl, below_drewN B _⟩
end Go.Proofs.YtemlabmmafcapaaGreatDoor
