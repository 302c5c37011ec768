/- conform.event at the words of a line that was printed. (printed by gen_tfe.py) -/
import Derived.Test.YtemlabmmafcapaaGreatDoorTfD
namespace Go.Proofs.YtemlabmmafcapaaGreatDoor
open Go.RowKit

def evArr (reel : ByteArray) (kd len inn out pos : Int) (i : Nat) : Array Value := #[.string reel, .int .i64 kd, .int .i64 len, .int .i64 (if 0 < i then inn else 0), .int .i64 (if 1 < i then out else 0), .int .i64 (if 2 < i then pos else 0)]
theorem parse_code (r m : Int) (hr : rateB r = true) (h0 : 0 ≤ m) (h1 : m < dayN r) (W : World) : Calls Tryz.prog 47 #[.int .i64 r, .string (ofL (codeT r m))] W fun e w' => e = .returned (.tuple #[.agg #[.int .i64 (codeOfH r m), .int .i64 (codeOfM r m), .int .i64 (codeOfS r m), .int .i64 (codeOfF r m)], .int .i64 0]) ∧ Below W.heap.size W w' :=
  conform_ParseCode r _ W _ _ _ _ _ (codeT_read hr h0 h1).1
theorem frames_code (r m : Int) (hr : rateB r = true) (h0 : 0 ≤ m) (h1 : m < dayN r) (W : World) : Calls Tryz.prog 48 #[.int .i64 r, .agg #[.int .i64 (codeOfH r m), .int .i64 (codeOfM r m), .int .i64 (codeOfS r m), .int .i64 (codeOfF r m)]] W fun e w' => e = .returned (.tuple #[.int .i64 m, .int .i64 0]) ∧ Below W.heap.size W w' := by
  have h := conform_Frames_ok r (codeOfH r m) (codeOfM r m) (codeOfS r m) (codeOfF r m) W (codeT_read hr h0 h1).2.2
  rw [(codeT_read hr h0 h1).2.1] at h
  exact h
set_option maxRecDepth 100000 in
set_option maxHeartbeats 16000000 in
theorem conform_event (r : Int) (k : Nat) (reel : ByteArray) (kind len inn out pos : Int) (wv : Value) (W : World) (E : EnvT W) (hw : SlT W wv ((evWs r ⟨reel, kind, len, inn, out, pos⟩ k).map ofL)) (hr : rateB r = true) (hk : k < 500)
    (a2 : kind = 1 ∨ kind = 2) (a3 : 0 ≤ len) (a4 : len ≤ 250) (a5 : 0 ≤ inn) (a6 : inn < out) (a7 : out ≤ 16777216) (a8 : 0 ≤ pos) (a9 : pos ≤ 16777216) (b1 : inn < dayN r) (b2 : out < dayN r) (b3 : pos < dayN r) (b4 : pos + (out - inn) < dayN r) :
    Calls Tryz.prog 23 #[.int .i64 r, .int .i64 ((k : Int) + 1), wv] W fun e w' => e = .returned (.tuple #[.agg #[.string reel, .int .i64 kind, .int .i64 len, .int .i64 inn, .int .i64 out, .int .i64 pos], .int .i64 0]) ∧ Below W.heap.size W w' := by
  obtain ⟨g, c, rfl, hg, hc⟩ := hw
  obtain ⟨fin, hfin⟩ : ∃ fin, fin = pos + (out - inn) := ⟨_, rfl⟩
  have hlen : ((evWs r ⟨reel, kind, len, inn, out, pos⟩ k).map ofL).length = 8 := rfl
  rw [hlen] at hc ⊢
  have hc0 := hc 0 (by omega)
  have hc1 := hc 1 (by omega)
  have hc2 := hc 2 (by omega)
  have hc3 := hc 3 (by omega)
  have hc4 := hc 4 (by omega)
  have hc5 := hc 5 (by omega)
  have hc6 := hc 6 (by omega)
  have hc7 := hc 7 (by omega)
  simp only [evWs, List.map_cons, List.map_nil, List.getD_cons_zero, List.getD_cons_succ] at hc0 hc1 hc2 hc3 hc4 hc5 hc6 hc7
  rw [← hfin] at hc7 b4
  rw [show ofL reel.data.toList = reel from (ofL_of rfl).symm] at hc1
  obtain ⟨PA, hPA⟩ : ∃ PA, PA = ofL (pad3 (k + 1)) := ⟨_, rfl⟩
  obtain ⟨PB, hPB⟩ : ∃ PB, PB = ofL (pad3 len.toNat) := ⟨_, rfl⟩
  obtain ⟨C0, hC0⟩ : ∃ C, C = ofL (codeT r inn) := ⟨_, rfl⟩
  obtain ⟨C1, hC1⟩ : ∃ C, C = ofL (codeT r out) := ⟨_, rfl⟩
  obtain ⟨C2, hC2⟩ : ∃ C, C = ofL (codeT r pos) := ⟨_, rfl⟩
  obtain ⟨C3, hC3⟩ : ∃ C, C = ofL (codeT r fin) := ⟨_, rfl⟩
  have KA := Lib.hid (fun w E => conform_threes (k + 1) (by omega) PA hPA w E)
  have KB := Lib.hid (fun w E => conform_threes len.toNat (by omega) PB hPB w E)
  rw [show ((len.toNat : Nat) : Int) = len by omega] at KB
  rw [show (((k + 1 : Nat) : Int)) = (k : Int) + 1 by omega] at KA
  have K0 := Lib.hid (fun w => parse_code r inn hr a5 b1 w)
  have K1 := Lib.hid (fun w => parse_code r out hr (by omega) b2 w)
  have K2 := Lib.hid (fun w => parse_code r pos hr a8 b3 w)
  have K3 := Lib.hid (fun w => parse_code r fin hr (by omega) b4 w)
  have F0 := Lib.hid (fun w => frames_code r inn hr a5 b1 w)
  have F1 := Lib.hid (fun w => frames_code r out hr (by omega) b2 w)
  have F2 := Lib.hid (fun w => frames_code r pos hr a8 b3 w)
  have F3 := Lib.hid (fun w => frames_code r fin hr (by omega) b4 w)
  rw [← hPA] at hc0
  rw [← hPB] at hc3
  rw [← hC0] at hc4 K0
  rw [← hC1] at hc5 K1
  rw [← hC2] at hc6 K2
  rw [← hC3] at hc7 K3
  have HC := Lib.hid (And.intro hc4 (And.intro hc5 (And.intro hc6 hc7)))
  have HFIN := Lib.hid hfin
  obtain ⟨kd, rfl⟩ : ∃ kd : Nat, kind = (kd : Int) := ⟨kind.toNat, by omega⟩
  clear hc hC0 hC1 hC2 hC3 hPA hPB hlen hfin hc4 hc5 hc6 hc7
  have hkw : ∃ KW : ByteArray, ofL (kindW (kd : Int)) = KW := ⟨_, rfl⟩
  rcases (by omega : kd = 1 ∨ kd = 2) with rfl | rfl
  · replace hc2 : W.cell? ⟨g, 2, none⟩ = some (.string ⟨#[67]⟩) := hc2
    clear hkw
    go_enter Tryz.func23, Tryz.ntmps23
    go_upto_region 1 with fail
    refine name_world ?_
    intro w0 hw0
    have x6 : Bx w0 W.heap.size 55 #[.string ⟨#[]⟩, .int .i64 0, .int .i64 0, .int .i64 0, .int .i64 0, .int .i64 0] := by rw [hw0]; exact Bx.new _ _ _
    have B : Below W.heap.size W w0 := by rw [hw0]; exact bnew (Below.refl _ W)
    clear hw0
    have d0 := (B.cell (p := ⟨g, 0, none⟩) hg).trans hc0
    go_wp2_with fail
    refine (KA.out _ (E.below B)).mono ?_
    rintro e w1 ⟨rfl, hb⟩
    replace x6 := x6.keep hb
    replace B := bcall B hb
    clear hb d0
    have d3 := (B.cell (p := ⟨g, 3, none⟩) hg).trans hc3
    go_wp2_with fail
    refine (KB.out _ (E.below B)).mono ?_
    rintro e w2 ⟨rfl, hb⟩
    replace x6 := x6.keep hb
    replace B := bcall B hb
    clear hb d3
    have d1 := (B.cell (p := ⟨g, 1, none⟩) hg).trans hc1
    have d2 := (B.cell (p := ⟨g, 2, none⟩) hg).trans hc2
    obtain ⟨q6, f6, l6⟩ := x6.all
    generalize hp6 : W.heap.size = p6 at *
    have H6 := Lib.hid hp6
    clear hp6
    go_upto_region 10 with fail
    refine name_world ?_
    intro w3 hw3
    have on : Only p6 w2 w3 := by rw [hw3]; exact (((((((Only.refl p6 w2).set _ _).set _ _).set _ _).set _ _).set _ _).set _ _)
    have y6 : Bx w3 p6 55 #[.string reel, .int .i64 1, .int .i64 len, .int .i64 0, .int .i64 0, .int .i64 0] := by rw [hw3]; exact ((((((x6.set 0 _).set 1 _).set 2 _).set 3 _).set 4 _).set 5 _)
    have hWp : W.heap.size ≤ p6 := Nat.le_of_eq H6.out
    have hg2 : g < W.heap.size := by rw [H6.out]; exact hg
    replace B : Below W.heap.size W w3 := bonly (by rw [H6.out]; exact B) on hWp
    clear hw3 on x6 q6 f6 l6 d1 d2
    obtain ⟨q6, f6, l6⟩ := y6.all
    go_upto_region 11 with fail
    refine name_world ?_
    intro w4 hw4
    have x12 : Bx w4 w3.heap.size 3 #[.int .i64 0] := by rw [hw4]; exact Bx.new _ _ _
    have x6 : Bx w4 p6 55 #[.string reel, .int .i64 1, .int .i64 len, .int .i64 0, .int .i64 0, .int .i64 0] := by rw [hw4]; exact y6.alloc _
    have hne : p6 < w3.heap.size := l6
    replace B : Below W.heap.size W w4 := by rw [hw4]; exact bnew B
    clear hw4 y6 q6 f6 l6
    generalize w3.heap.size = p12 at *
    obtain ⟨q6, f6, l6⟩ := x6.all
    obtain ⟨q12, f12, l12⟩ := x12.all
    go_wp2_with fail
    go_loopw [73] (fun iv wr => ∃ i : Nat, i ≤ 4 ∧ iv = .int .i64 (i : Int) ∧ Bx wr p6 55 (evArr reel 1 len inn out pos i) ∧ Bx wr p12 3 #[.int .i64 (if 3 < i then fin else 0)] ∧ Below W.heap.size W wr) (fun iv _ => 4 - (intOf iv).toNat)
    case atStart => exact ⟨0, by omega, rfl, x6, x12, B⟩
    case round =>
      clear x6 x12 B q6 f6 l6 q12 f12 l12
      obtain ⟨i, hi, rfl, x6, x12, B⟩ := hrel
      rcases (by omega : i = 0 ∨ i = 1 ∨ i = 2 ∨ i = 3 ∨ i = 4) with rfl | rfl | rfl | rfl | rfl
      · replace x6 : Bx wr p6 55 #[.string reel, .int .i64 1, .int .i64 len, .int .i64 0, .int .i64 0, .int .i64 0] := x6
        replace x12 : Bx wr p12 3 #[.int .i64 0] := x12
        have d4 := (B.cell (p := ⟨g, 4, none⟩) hg2).trans HC.out.1
        have hix : ∀ w, (Instr.index 92 (.agg #[.pointer (some ⟨p6, 3, none⟩), .pointer (some ⟨p6, 4, none⟩), .pointer (some ⟨p6, 5, none⟩), .pointer (some ⟨p12, 0, none⟩)]) (.int .i64 0)).run Tryz.prog w = .ok (.pointer (some ⟨p6, 3, none⟩)) w := fun w => by kernel_rfl
        obtain ⟨q6, f6, l6⟩ := x6.all
        go_wp2_with fail
        refine (K0.out _).mono ?_
        rintro e w5 ⟨rfl, hb⟩
        replace x6 := x6.keep hb
        replace x12 := x12.keep hb
        replace B := bcall B hb
        clear hb d4 q6 f6 l6
        generalize codeOfH r inn = ch at *
        generalize codeOfM r inn = cm at *
        generalize codeOfS r inn = cs at *
        generalize codeOfF r inn = cf at *
        go_wp2_with fail
        refine nm_call ?_
        intro w6 hw6
        have hb := below_eq hw6
        clear hw6
        replace x6 := x6.keep hb
        replace x12 := x12.keep hb
        replace B := bcall B hb
        clear hb
        refine (F0.out _).mono ?_
        rintro e w7 ⟨rfl, hb⟩
        replace x6 := x6.keep hb
        replace x12 := x12.keep hb
        replace B := bcall B hb
        clear hb
        obtain ⟨q6, f6, l6⟩ := x6.all
        obtain ⟨q12, f12, l12⟩ := x12.all
        go_wp2_with fail
        go_roundw
        case rel => exact ⟨1, by omega, by go_num, x6.set 3 _, x12.other _ _ (by show p12 ≠ p6; omega), bput hWp B⟩
        case measure => simp [intOf]
      · replace x6 : Bx wr p6 55 #[.string reel, .int .i64 1, .int .i64 len, .int .i64 inn, .int .i64 0, .int .i64 0] := x6
        replace x12 : Bx wr p12 3 #[.int .i64 0] := x12
        have d4 := (B.cell (p := ⟨g, 5, none⟩) hg2).trans HC.out.2.1
        have hix : ∀ w, (Instr.index 92 (.agg #[.pointer (some ⟨p6, 3, none⟩), .pointer (some ⟨p6, 4, none⟩), .pointer (some ⟨p6, 5, none⟩), .pointer (some ⟨p12, 0, none⟩)]) (.int .i64 1)).run Tryz.prog w = .ok (.pointer (some ⟨p6, 4, none⟩)) w := fun w => by kernel_rfl
        obtain ⟨q6, f6, l6⟩ := x6.all
        go_wp2_with fail
        refine (K1.out _).mono ?_
        rintro e w5 ⟨rfl, hb⟩
        replace x6 := x6.keep hb
        replace x12 := x12.keep hb
        replace B := bcall B hb
        clear hb d4 q6 f6 l6
        generalize codeOfH r out = ch at *
        generalize codeOfM r out = cm at *
        generalize codeOfS r out = cs at *
        generalize codeOfF r out = cf at *
        go_wp2_with fail
        refine nm_call ?_
        intro w6 hw6
        have hb := below_eq hw6
        clear hw6
        replace x6 := x6.keep hb
        replace x12 := x12.keep hb
        replace B := bcall B hb
        clear hb
        refine (F1.out _).mono ?_
        rintro e w7 ⟨rfl, hb⟩
        replace x6 := x6.keep hb
        replace x12 := x12.keep hb
        replace B := bcall B hb
        clear hb
        obtain ⟨q6, f6, l6⟩ := x6.all
        obtain ⟨q12, f12, l12⟩ := x12.all
        go_wp2_with fail
        go_roundw
        case rel => exact ⟨2, by omega, by go_num, x6.set 4 _, x12.other _ _ (by show p12 ≠ p6; omega), bput hWp B⟩
        case measure => simp [intOf]
      · replace x6 : Bx wr p6 55 #[.string reel, .int .i64 1, .int .i64 len, .int .i64 inn, .int .i64 out, .int .i64 0] := x6
        replace x12 : Bx wr p12 3 #[.int .i64 0] := x12
        have d4 := (B.cell (p := ⟨g, 6, none⟩) hg2).trans HC.out.2.2.1
        have hix : ∀ w, (Instr.index 92 (.agg #[.pointer (some ⟨p6, 3, none⟩), .pointer (some ⟨p6, 4, none⟩), .pointer (some ⟨p6, 5, none⟩), .pointer (some ⟨p12, 0, none⟩)]) (.int .i64 2)).run Tryz.prog w = .ok (.pointer (some ⟨p6, 5, none⟩)) w := fun w => by kernel_rfl
        obtain ⟨q6, f6, l6⟩ := x6.all
        go_wp2_with fail
        refine (K2.out _).mono ?_
        rintro e w5 ⟨rfl, hb⟩
        replace x6 := x6.keep hb
        replace x12 := x12.keep hb
        replace B := bcall B hb
        clear hb d4 q6 f6 l6
        generalize codeOfH r pos = ch at *
        generalize codeOfM r pos = cm at *
        generalize codeOfS r pos = cs at *
        generalize codeOfF r pos = cf at *
        go_wp2_with fail
        refine nm_call ?_
        intro w6 hw6
        have hb := below_eq hw6
        clear hw6
        replace x6 := x6.keep hb
        replace x12 := x12.keep hb
        replace B := bcall B hb
        clear hb
        refine (F2.out _).mono ?_
        rintro e w7 ⟨rfl, hb⟩
        replace x6 := x6.keep hb
        replace x12 := x12.keep hb
        replace B := bcall B hb
        clear hb
        obtain ⟨q6, f6, l6⟩ := x6.all
        obtain ⟨q12, f12, l12⟩ := x12.all
        go_wp2_with fail
        go_roundw
        case rel => exact ⟨3, by omega, by go_num, x6.set 5 _, x12.other _ _ (by show p12 ≠ p6; omega), bput hWp B⟩
        case measure => simp [intOf]
      · replace x6 : Bx wr p6 55 #[.string reel, .int .i64 1, .int .i64 len, .int .i64 inn, .int .i64 out, .int .i64 pos] := x6
        replace x12 : Bx wr p12 3 #[.int .i64 0] := x12
        have d4 := (B.cell (p := ⟨g, 7, none⟩) hg2).trans HC.out.2.2.2
        have hix : ∀ w, (Instr.index 92 (.agg #[.pointer (some ⟨p6, 3, none⟩), .pointer (some ⟨p6, 4, none⟩), .pointer (some ⟨p6, 5, none⟩), .pointer (some ⟨p12, 0, none⟩)]) (.int .i64 3)).run Tryz.prog w = .ok (.pointer (some ⟨p12, 0, none⟩)) w := fun w => by kernel_rfl
        obtain ⟨q6, f6, l6⟩ := x6.all
        go_wp2_with fail
        refine (K3.out _).mono ?_
        rintro e w5 ⟨rfl, hb⟩
        replace x6 := x6.keep hb
        replace x12 := x12.keep hb
        replace B := bcall B hb
        clear hb d4 q6 f6 l6
        generalize codeOfH r fin = ch at *
        generalize codeOfM r fin = cm at *
        generalize codeOfS r fin = cs at *
        generalize codeOfF r fin = cf at *
        go_wp2_with fail
        refine nm_call ?_
        intro w6 hw6
        have hb := below_eq hw6
        clear hw6
        replace x6 := x6.keep hb
        replace x12 := x12.keep hb
        replace B := bcall B hb
        clear hb
        refine (F3.out _).mono ?_
        rintro e w7 ⟨rfl, hb⟩
        replace x6 := x6.keep hb
        replace x12 := x12.keep hb
        replace B := bcall B hb
        clear hb
        obtain ⟨q6, f6, l6⟩ := x6.all
        obtain ⟨q12, f12, l12⟩ := x12.all
        go_wp2_with fail
        go_roundw
        case rel => exact ⟨4, by omega, by go_num, x6.other _ _ (by show p6 ≠ p12; omega), x12.set 0 _, bput (by omega) B⟩
        case measure => simp [intOf]
      · replace x6 : Bx wr p6 55 #[.string reel, .int .i64 1, .int .i64 len, .int .i64 inn, .int .i64 out, .int .i64 pos] := x6
        replace x12 : Bx wr p12 3 #[.int .i64 fin] := x12
        obtain ⟨q6, f6, l6⟩ := x6.all
        go_upto_region 19 with fail
        refine name_world ?_
        intro w9 hw9
        rw [← hw9] at x6 x12 B
        clear hw9 q6 f6 l6
        refine wp_region_grd 6 (fun _ => false) (fun q u w' => u = [.int .i64 fin, .pointer (some ⟨p6, 5, none⟩), .int .i64 pos, .agg #[.string reel, .int .i64 1, .int .i64 len, .int .i64 inn, .int .i64 out, .int .i64 pos], .int .i64 (out - inn), .int .i64 fin].getD q undef) (fun _ => false) (fun w' => Below w9.heap.size w9 w') (by kernel_rfl) (by kernel_rfl) (fun _ _ _ _ _ h => h)
          (fun _ _ h e => e.trans (h.mono e.size)) (fun t u a' b' hb h => ?_) (Below.refl _ _).drew ?_ ?_ ?_
        · exact h
        · intro t op ht hlt hop
          clear hlt
          rcases (by omega : t = 0 ∨ t = 1 ∨ t = 2 ∨ t = 3 ∨ t = 4 ∨ t = 5) with rfl | rfl | rfl | rfl | rfl | rfl
          all_goals simp only [List.getElem?_cons_zero, List.getElem?_cons_succ, Option.some.injEq] at hop
          all_goals subst hop
          all_goals intro a wx hE hag hdep
          · refine grd_none rfl ?_
            have e0 := slot_eq (hag 12 rfl)
            have hq := (x12.keep hE).all.1
            exact rel_pure _ rfl rfl (by simp [go_sem, e0, hq])
          · refine grd_none rfl ?_
            have e0 := slot_eq (hag 6 rfl)
            exact rel_pure _ rfl rfl (by simp [go_sem, e0])
          · refine grd_none rfl ?_
            have e0 := slot_eq (hdep ⟨1, .data⟩ (by simp) rfl)
            have hq := (x6.keep hE).all.1
            exact rel_pure _ rfl rfl (by simp [go_sem, e0, hq])
          · refine grd_none rfl ?_
            have e0 := slot_eq (hag 6 rfl)
            have hq := (x6.keep hE).all.1
            exact rel_pure _ rfl rfl (by simp [go_sem, e0, hq])
          · refine grd_none rfl ?_
            have e0 := slot_eq (hdep ⟨3, .data⟩ (by simp) rfl)
            refine rel_call (f := 15) (args := #[.agg #[.string reel, .int .i64 1, .int .i64 len, .int .i64 inn, .int .i64 out, .int .i64 pos]]) (run_go_call Tryz.func15 (by kernel_rfl) (by kernel_rfl) _ _ _ _ _ _ _ _ _ _ (by simp [Act.eval, e0])) rfl ?_
            refine (conform_long reel 1 len inn out pos wx (by omega) (by omega) (by omega)).mono ?_
            rintro e w' ⟨rfl, hbx⟩
            exact ⟨_, rfl, rfl, hbx⟩
          · refine grd_none rfl ?_
            have e0 := slot_eq (hdep ⟨2, .data⟩ (by simp) rfl)
            have e1 := slot_eq (hdep ⟨4, .data⟩ (by simp) rfl)
            have hw : IntKind.i64.wrap (pos + (out - inn)) = fin := by rw [HFIN.out]; exact IntWalk.i64_in _ (by omega)
            exact rel_pure _ rfl rfl (by simp [go_sem, e0, e1, hw])
        · intro t op ht hlt; cases hlt
        · intro vs wy hE hvs _
          have kz : vs 0 = .int .i64 fin := hvs 0 (by omega)
          have kz2 : vs 5 = .int .i64 fin := hvs 5 (by omega)
          simp only [List.drop_succ_cons, List.drop_zero, putAll, dstAt, List.getElem?_toArray, List.getElem?_cons_zero, List.getElem?_cons_succ, Option.bind_some, Act.put, List.setIfInBounds_toArray, List.set_cons_zero, List.set_cons_succ, kz, kz2]
          clear hvs kz kz2
          replace x6 := x6.keep hE
          replace B := B.trans (hE.mono B.size)
          clear hE x12
          obtain ⟨q6, f6, l6⟩ := x6.all
          go_wp2_with fail
          exact bodyPost_ret (v := .tuple #[.agg #[.string reel, .int .i64 1, .int .i64 len, .int .i64 inn, .int .i64 out, .int .i64 pos], .int .i64 0]) (by simp [results, Tryz.results23, go_sem, q6]) rfl ⟨rfl, bput hWp (bput hWp (bput hWp (bput hWp (bput hWp (bput hWp B)))))⟩
  · replace hc2 : W.cell? ⟨g, 2, none⟩ = some (.string ⟨#[68]⟩) := hc2
    clear hkw
    go_enter Tryz.func23, Tryz.ntmps23
    go_upto_region 1 with fail
    refine name_world ?_
    intro w0 hw0
    have x6 : Bx w0 W.heap.size 55 #[.string ⟨#[]⟩, .int .i64 0, .int .i64 0, .int .i64 0, .int .i64 0, .int .i64 0] := by rw [hw0]; exact Bx.new _ _ _
    have B : Below W.heap.size W w0 := by rw [hw0]; exact bnew (Below.refl _ W)
    clear hw0
    have d0 := (B.cell (p := ⟨g, 0, none⟩) hg).trans hc0
    go_wp2_with fail
    refine (KA.out _ (E.below B)).mono ?_
    rintro e w1 ⟨rfl, hb⟩
    replace x6 := x6.keep hb
    replace B := bcall B hb
    clear hb d0
    have d3 := (B.cell (p := ⟨g, 3, none⟩) hg).trans hc3
    go_wp2_with fail
    refine (KB.out _ (E.below B)).mono ?_
    rintro e w2 ⟨rfl, hb⟩
    replace x6 := x6.keep hb
    replace B := bcall B hb
    clear hb d3
    have d1 := (B.cell (p := ⟨g, 1, none⟩) hg).trans hc1
    have d2 := (B.cell (p := ⟨g, 2, none⟩) hg).trans hc2
    obtain ⟨q6, f6, l6⟩ := x6.all
    generalize hp6 : W.heap.size = p6 at *
    have H6 := Lib.hid hp6
    clear hp6
    go_upto_region 10 with fail
    refine name_world ?_
    intro w3 hw3
    have on : Only p6 w2 w3 := by rw [hw3]; exact ((((((((Only.refl p6 w2).set _ _).set _ _).set _ _).set _ _).set _ _).set _ _).set _ _)
    have y6 : Bx w3 p6 55 #[.string reel, .int .i64 2, .int .i64 len, .int .i64 0, .int .i64 0, .int .i64 0] := by rw [hw3]; exact (((((((x6.set 0 _).set 1 _).set 2 _).set 3 _).set 4 _).set 5 _).set 1 _)
    have hWp : W.heap.size ≤ p6 := Nat.le_of_eq H6.out
    have hg2 : g < W.heap.size := by rw [H6.out]; exact hg
    replace B : Below W.heap.size W w3 := bonly (by rw [H6.out]; exact B) on hWp
    clear hw3 on x6 q6 f6 l6 d1 d2
    obtain ⟨q6, f6, l6⟩ := y6.all
    go_upto_region 11 with fail
    refine name_world ?_
    intro w4 hw4
    have x12 : Bx w4 w3.heap.size 3 #[.int .i64 0] := by rw [hw4]; exact Bx.new _ _ _
    have x6 : Bx w4 p6 55 #[.string reel, .int .i64 2, .int .i64 len, .int .i64 0, .int .i64 0, .int .i64 0] := by rw [hw4]; exact y6.alloc _
    have hne : p6 < w3.heap.size := l6
    replace B : Below W.heap.size W w4 := by rw [hw4]; exact bnew B
    clear hw4 y6 q6 f6 l6
    generalize w3.heap.size = p12 at *
    obtain ⟨q6, f6, l6⟩ := x6.all
    obtain ⟨q12, f12, l12⟩ := x12.all
    go_wp2_with fail
    go_loopw [73] (fun iv wr => ∃ i : Nat, i ≤ 4 ∧ iv = .int .i64 (i : Int) ∧ Bx wr p6 55 (evArr reel 2 len inn out pos i) ∧ Bx wr p12 3 #[.int .i64 (if 3 < i then fin else 0)] ∧ Below W.heap.size W wr) (fun iv _ => 4 - (intOf iv).toNat)
    case atStart => exact ⟨0, by omega, rfl, x6, x12, B⟩
    case round =>
      clear x6 x12 B q6 f6 l6 q12 f12 l12
      obtain ⟨i, hi, rfl, x6, x12, B⟩ := hrel
      rcases (by omega : i = 0 ∨ i = 1 ∨ i = 2 ∨ i = 3 ∨ i = 4) with rfl | rfl | rfl | rfl | rfl
      · replace x6 : Bx wr p6 55 #[.string reel, .int .i64 2, .int .i64 len, .int .i64 0, .int .i64 0, .int .i64 0] := x6
        replace x12 : Bx wr p12 3 #[.int .i64 0] := x12
        have d4 := (B.cell (p := ⟨g, 4, none⟩) hg2).trans HC.out.1
        have hix : ∀ w, (Instr.index 92 (.agg #[.pointer (some ⟨p6, 3, none⟩), .pointer (some ⟨p6, 4, none⟩), .pointer (some ⟨p6, 5, none⟩), .pointer (some ⟨p12, 0, none⟩)]) (.int .i64 0)).run Tryz.prog w = .ok (.pointer (some ⟨p6, 3, none⟩)) w := fun w => by kernel_rfl
        obtain ⟨q6, f6, l6⟩ := x6.all
        go_wp2_with fail
        refine (K0.out _).mono ?_
        rintro e w5 ⟨rfl, hb⟩
        replace x6 := x6.keep hb
        replace x12 := x12.keep hb
        replace B := bcall B hb
        clear hb d4 q6 f6 l6
        generalize codeOfH r inn = ch at *
        generalize codeOfM r inn = cm at *
        generalize codeOfS r inn = cs at *
        generalize codeOfF r inn = cf at *
        go_wp2_with fail
        refine nm_call ?_
        intro w6 hw6
        have hb := below_eq hw6
        clear hw6
        replace x6 := x6.keep hb
        replace x12 := x12.keep hb
        replace B := bcall B hb
        clear hb
        refine (F0.out _).mono ?_
        rintro e w7 ⟨rfl, hb⟩
        replace x6 := x6.keep hb
        replace x12 := x12.keep hb
        replace B := bcall B hb
        clear hb
        obtain ⟨q6, f6, l6⟩ := x6.all
        obtain ⟨q12, f12, l12⟩ := x12.all
        go_wp2_with fail
        go_roundw
        case rel => exact ⟨1, by omega, by go_num, x6.set 3 _, x12.other _ _ (by show p12 ≠ p6; omega), bput hWp B⟩
        case measure => simp [intOf]
      · replace x6 : Bx wr p6 55 #[.string reel, .int .i64 2, .int .i64 len, .int .i64 inn, .int .i64 0, .int .i64 0] := x6
        replace x12 : Bx wr p12 3 #[.int .i64 0] := x12
        have d4 := (B.cell (p := ⟨g, 5, none⟩) hg2).trans HC.out.2.1
        have hix : ∀ w, (Instr.index 92 (.agg #[.pointer (some ⟨p6, 3, none⟩), .pointer (some ⟨p6, 4, none⟩), .pointer (some ⟨p6, 5, none⟩), .pointer (some ⟨p12, 0, none⟩)]) (.int .i64 1)).run Tryz.prog w = .ok (.pointer (some ⟨p6, 4, none⟩)) w := fun w => by kernel_rfl
        obtain ⟨q6, f6, l6⟩ := x6.all
        go_wp2_with fail
        refine (K1.out _).mono ?_
        rintro e w5 ⟨rfl, hb⟩
        replace x6 := x6.keep hb
        replace x12 := x12.keep hb
        replace B := bcall B hb
        clear hb d4 q6 f6 l6
        generalize codeOfH r out = ch at *
        generalize codeOfM r out = cm at *
        generalize codeOfS r out = cs at *
        generalize codeOfF r out = cf at *
        go_wp2_with fail
        refine nm_call ?_
        intro w6 hw6
        have hb := below_eq hw6
        clear hw6
        replace x6 := x6.keep hb
        replace x12 := x12.keep hb
        replace B := bcall B hb
        clear hb
        refine (F1.out _).mono ?_
        rintro e w7 ⟨rfl, hb⟩
        replace x6 := x6.keep hb
        replace x12 := x12.keep hb
        replace B := bcall B hb
        clear hb
        obtain ⟨q6, f6, l6⟩ := x6.all
        obtain ⟨q12, f12, l12⟩ := x12.all
        go_wp2_with fail
        go_roundw
        case rel => exact ⟨2, by omega, by go_num, x6.set 4 _, x12.other _ _ (by show p12 ≠ p6; omega), bput hWp B⟩
        case measure => simp [intOf]
      · replace x6 : Bx wr p6 55 #[.string reel, .int .i64 2, .int .i64 len, .int .i64 inn, .int .i64 out, .int .i64 0] := x6
        replace x12 : Bx wr p12 3 #[.int .i64 0] := x12
        have d4 := (B.cell (p := ⟨g, 6, none⟩) hg2).trans HC.out.2.2.1
        have hix : ∀ w, (Instr.index 92 (.agg #[.pointer (some ⟨p6, 3, none⟩), .pointer (some ⟨p6, 4, none⟩), .pointer (some ⟨p6, 5, none⟩), .pointer (some ⟨p12, 0, none⟩)]) (.int .i64 2)).run Tryz.prog w = .ok (.pointer (some ⟨p6, 5, none⟩)) w := fun w => by kernel_rfl
        obtain ⟨q6, f6, l6⟩ := x6.all
        go_wp2_with fail
        refine (K2.out _).mono ?_
        rintro e w5 ⟨rfl, hb⟩
        replace x6 := x6.keep hb
        replace x12 := x12.keep hb
        replace B := bcall B hb
        clear hb d4 q6 f6 l6
        generalize codeOfH r pos = ch at *
        generalize codeOfM r pos = cm at *
        generalize codeOfS r pos = cs at *
        generalize codeOfF r pos = cf at *
        go_wp2_with fail
        refine nm_call ?_
        intro w6 hw6
        have hb := below_eq hw6
        clear hw6
        replace x6 := x6.keep hb
        replace x12 := x12.keep hb
        replace B := bcall B hb
        clear hb
        refine (F2.out _).mono ?_
        rintro e w7 ⟨rfl, hb⟩
        replace x6 := x6.keep hb
        replace x12 := x12.keep hb
        replace B := bcall B hb
        clear hb
        obtain ⟨q6, f6, l6⟩ := x6.all
        obtain ⟨q12, f12, l12⟩ := x12.all
        go_wp2_with fail
        go_roundw
        case rel => exact ⟨3, by omega, by go_num, x6.set 5 _, x12.other _ _ (by show p12 ≠ p6; omega), bput hWp B⟩
        case measure => simp [intOf]
      · replace x6 : Bx wr p6 55 #[.string reel, .int .i64 2, .int .i64 len, .int .i64 inn, .int .i64 out, .int .i64 pos] := x6
        replace x12 : Bx wr p12 3 #[.int .i64 0] := x12
        have d4 := (B.cell (p := ⟨g, 7, none⟩) hg2).trans HC.out.2.2.2
        have hix : ∀ w, (Instr.index 92 (.agg #[.pointer (some ⟨p6, 3, none⟩), .pointer (some ⟨p6, 4, none⟩), .pointer (some ⟨p6, 5, none⟩), .pointer (some ⟨p12, 0, none⟩)]) (.int .i64 3)).run Tryz.prog w = .ok (.pointer (some ⟨p12, 0, none⟩)) w := fun w => by kernel_rfl
        obtain ⟨q6, f6, l6⟩ := x6.all
        go_wp2_with fail
        refine (K3.out _).mono ?_
        rintro e w5 ⟨rfl, hb⟩
        replace x6 := x6.keep hb
        replace x12 := x12.keep hb
        replace B := bcall B hb
        clear hb d4 q6 f6 l6
        generalize codeOfH r fin = ch at *
        generalize codeOfM r fin = cm at *
        generalize codeOfS r fin = cs at *
        generalize codeOfF r fin = cf at *
        go_wp2_with fail
        refine nm_call ?_
        intro w6 hw6
        have hb := below_eq hw6
        clear hw6
        replace x6 := x6.keep hb
        replace x12 := x12.keep hb
        replace B := bcall B hb
        clear hb
        refine (F3.out _).mono ?_
        rintro e w7 ⟨rfl, hb⟩
        replace x6 := x6.keep hb
        replace x12 := x12.keep hb
        replace B := bcall B hb
        clear hb
        obtain ⟨q6, f6, l6⟩ := x6.all
        obtain ⟨q12, f12, l12⟩ := x12.all
        go_wp2_with fail
        go_roundw
        case rel => exact ⟨4, by omega, by go_num, x6.other _ _ (by show p6 ≠ p12; omega), x12.set 0 _, bput (by omega) B⟩
        case measure => simp [intOf]
      · replace x6 : Bx wr p6 55 #[.string reel, .int .i64 2, .int .i64 len, .int .i64 inn, .int .i64 out, .int .i64 pos] := x6
        replace x12 : Bx wr p12 3 #[.int .i64 fin] := x12
        obtain ⟨q6, f6, l6⟩ := x6.all
        go_upto_region 19 with fail
        refine name_world ?_
        intro w9 hw9
        rw [← hw9] at x6 x12 B
        clear hw9 q6 f6 l6
        refine wp_region_grd 6 (fun _ => false) (fun q u w' => u = [.int .i64 fin, .pointer (some ⟨p6, 5, none⟩), .int .i64 pos, .agg #[.string reel, .int .i64 2, .int .i64 len, .int .i64 inn, .int .i64 out, .int .i64 pos], .int .i64 (out - inn), .int .i64 fin].getD q undef) (fun _ => false) (fun w' => Below w9.heap.size w9 w') (by kernel_rfl) (by kernel_rfl) (fun _ _ _ _ _ h => h)
          (fun _ _ h e => e.trans (h.mono e.size)) (fun t u a' b' hb h => ?_) (Below.refl _ _).drew ?_ ?_ ?_
        · exact h
        · intro t op ht hlt hop
          clear hlt
          rcases (by omega : t = 0 ∨ t = 1 ∨ t = 2 ∨ t = 3 ∨ t = 4 ∨ t = 5) with rfl | rfl | rfl | rfl | rfl | rfl
          all_goals simp only [List.getElem?_cons_zero, List.getElem?_cons_succ, Option.some.injEq] at hop
          all_goals subst hop
          all_goals intro a wx hE hag hdep
          · refine grd_none rfl ?_
            have e0 := slot_eq (hag 12 rfl)
            have hq := (x12.keep hE).all.1
            exact rel_pure _ rfl rfl (by simp [go_sem, e0, hq])
          · refine grd_none rfl ?_
            have e0 := slot_eq (hag 6 rfl)
            exact rel_pure _ rfl rfl (by simp [go_sem, e0])
          · refine grd_none rfl ?_
            have e0 := slot_eq (hdep ⟨1, .data⟩ (by simp) rfl)
            have hq := (x6.keep hE).all.1
            exact rel_pure _ rfl rfl (by simp [go_sem, e0, hq])
          · refine grd_none rfl ?_
            have e0 := slot_eq (hag 6 rfl)
            have hq := (x6.keep hE).all.1
            exact rel_pure _ rfl rfl (by simp [go_sem, e0, hq])
          · refine grd_none rfl ?_
            have e0 := slot_eq (hdep ⟨3, .data⟩ (by simp) rfl)
            refine rel_call (f := 15) (args := #[.agg #[.string reel, .int .i64 2, .int .i64 len, .int .i64 inn, .int .i64 out, .int .i64 pos]]) (run_go_call Tryz.func15 (by kernel_rfl) (by kernel_rfl) _ _ _ _ _ _ _ _ _ _ (by simp [Act.eval, e0])) rfl ?_
            refine (conform_long reel 2 len inn out pos wx (by omega) (by omega) (by omega)).mono ?_
            rintro e w' ⟨rfl, hbx⟩
            exact ⟨_, rfl, rfl, hbx⟩
          · refine grd_none rfl ?_
            have e0 := slot_eq (hdep ⟨2, .data⟩ (by simp) rfl)
            have e1 := slot_eq (hdep ⟨4, .data⟩ (by simp) rfl)
            have hw : IntKind.i64.wrap (pos + (out - inn)) = fin := by rw [HFIN.out]; exact IntWalk.i64_in _ (by omega)
            exact rel_pure _ rfl rfl (by simp [go_sem, e0, e1, hw])
        · intro t op ht hlt; cases hlt
        · intro vs wy hE hvs _
          have kz : vs 0 = .int .i64 fin := hvs 0 (by omega)
          have kz2 : vs 5 = .int .i64 fin := hvs 5 (by omega)
          simp only [List.drop_succ_cons, List.drop_zero, putAll, dstAt, List.getElem?_toArray, List.getElem?_cons_zero, List.getElem?_cons_succ, Option.bind_some, Act.put, List.setIfInBounds_toArray, List.set_cons_zero, List.set_cons_succ, kz, kz2]
          clear hvs kz kz2
          replace x6 := x6.keep hE
          replace B := B.trans (hE.mono B.size)
          clear hE x12
          obtain ⟨q6, f6, l6⟩ := x6.all
          go_wp2_with fail
          exact bodyPost_ret (v := .tuple #[.agg #[.string reel, .int .i64 2, .int .i64 len, .int .i64 inn, .int .i64 out, .int .i64 pos], .int .i64 0]) (by simp [results, Tryz.results23, go_sem, q6]) rfl ⟨rfl, bput hWp (bput hWp (bput hWp (bput hWp (bput hWp (bput hWp B)))))⟩
end Go.Proofs.YtemlabmmafcapaaGreatDoor
