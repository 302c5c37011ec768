/- conform.PrintList: an error, or the whole text. (printed by gen_tfc.py) -/
import Derived.Test.YtemlabmmafcapaaGreatDoorTfB
import Derived.Test.YtemlabmmafcapaaGreatDoorChk
import Derived.Test.YtemlabmmafcapaaGreatDoorCdD
import Derived.Test.YtemlabmmafcapaaGreatDoorRel
import Derived.Test.YtemlabmmafcapaaGreatDoorAll
import Derived.Test.YtemlabmmafcapaaGreatDoorSlp
namespace Go.Proofs.YtemlabmmafcapaaGreatDoor
open Go.RowKit

theorem bx_below {w w' : World} {B g : Nat} {T : TypeId} {cs : Array Value} (x : Bx w g T cs) (hb : Below B w w') (h : g < B) : Bx w' g T cs := by
  unfold Bx at *
  rw [hb.block g h]; exact x
theorem nm_call {P : Program} {f : FuncId} {args : Array Value} {w0 : World} {Q : Ending → World → Prop} (h : ∀ wb, wb = w0 → Calls P f args wb Q) : Calls P f args w0 Q := h _ rfl
theorem below_eq {w w0 : World} {ob : Obj} (h : w = w0.alloc ob) : Below w0.heap.size w0 w := by rw [h]; exact bnew (Below.refl _ _)
theorem list_ok {t : ByteArray} {r : Int} {es : List Ev} (h : editsErr t r es = 0) : nameB t = true ∧ rateB r = true ∧ es.length ≤ 500 ∧ evsTo es es.length = 0 := by
  unfold editsErr at h
  split at h; · cases h
  split at h; · cases h
  split at h; · cases h
  exact ⟨by simpa using ‹¬nameB t = false›, by simpa using ‹¬rateB r = false›, by omega, h⟩
theorem t_ItoaI (x : Int) (h0 : 0 ≤ x) (h1 : x < 1000) (w : World) (E : EnvT w) : Calls Tryz.prog 13 #[.int .i64 x] w fun e w' => e = .returned (.string (ofL (Lib.decDigits x.toNat))) ∧ Below w.heap.size w w' := by
  have h := t_Itoa x.toNat (by omega) w E
  rw [show ((x.toNat : Nat) : Int) = x by omega] at h
  exact h
theorem padded_int (x : Int) (h0 : 0 ≤ x) (h1 : x < 1000) (W : World) (E : EnvT W) : Calls Tryz.prog 14 #[.int .i64 x] W fun e w' => e = .returned (.string (ofL (pad3 x.toNat))) ∧ Below W.heap.size W w' := by
  have h := conform_padded x.toNat (by omega) W E
  rw [show ((x.toNat : Nat) : Int) = x by omega] at h
  exact h
theorem print_code (r m : Int) (hr : rateB r = true) (W : World) : Calls Tryz.prog 18 #[.int .i64 r, .agg #[.int .i64 (codeOfH r m), .int .i64 (codeOfM r m), .int .i64 (codeOfS r m), .int .i64 (codeOfF r m)]] W fun e w' => e = .returned (.tuple #[.string (ofL (codeT r m)), .int .i64 0]) ∧ Below W.heap.size W w' := by
  obtain ⟨h, m', s, f, e1, e2, e3, e4, _, _, _, _, b5⟩ := code_nat (n := m) hr
  rw [codeT_is e1 e2 e3 e4, e1, e2, e3, e4]
  exact conform_PrintCode_ok r h m' s f W b5
/-- The first numbers of a line, each behind a blank. -/
def codesT (r : Int) (ns : List Int) : List UInt8 := ns.flatMap fun m => 32 :: codeT r m
theorem codesT_snoc (r : Int) (ns : List Int) (m : Int) : codesT r (ns ++ [m]) = codesT r ns ++ 32 :: codeT r m := by simp [codesT]
theorem sp_code (r m : Int) : (⟨#[32]⟩ : ByteArray) ++ ofL (codeT r m) = ofL (32 :: codeT r m) := by
  apply ofL_of
  rw [ByteArray.data_append, Array.toList_append]
  simp [ofL]
theorem app_ofL {a b : ByteArray} {l m : List UInt8} (h1 : a = ofL l) (h2 : b = ofL m) : a ++ b = ofL (l ++ m) := by
  subst h1 h2
  apply ofL_of
  rw [ByteArray.data_append, Array.toList_append]
  simp [ofL]
theorem codesT_len {r : Int} (hr : rateB r = true) : ∀ (ns : List Int), (codesT r ns).length = 12 * ns.length
  | [] => rfl
  | m :: ns => by
    have h1 := (codeT_vw (n := m) hr).2
    have h2 := codesT_len hr ns
    simp only [codesT, List.flatMap_cons, List.length_append, List.length_cons] at h2 ⊢
    omega
theorem line_codes (r : Int) (p1 p2 : List UInt8) (k : Int) (reel : List UInt8) (a b c d : Int) : joinW [p1, reel, kindW k, p2, codeT r a, codeT r b, codeT r c, codeT r d] ++ [10] = (p1 ++ [32] ++ reel ++ [32] ++ kindW k ++ [32] ++ p2) ++ codesT r [a, b, c, d] ++ [10] := by
  simp [joinW, codesT]
theorem run_cat {P : Program} {o : Oper} {a : Act} {w : World} {T1 T2 : TypeId} {s1 s2 : Operand} {x y : ByteArray} (ho : o.op = .binOp .add T1 s1 s2 T2) (h1 : a.eval s1 = .string x) (h2 : a.eval s2 = .string y) (hs : x.size + y.size ≤ 1000000) : (execOp a.eval o).run P w = .ok (.value (.string (x ++ y))) w := by
  obtain ⟨d, op, ty, ps, af, gd⟩ := o
  simp only at ho
  subst ho
  have hc : ¬ ((x.size + y.size : Nat) : Int) > IntKind.i64.max := by
    have : IntKind.i64.max = 9223372036854775807 := by decide
    rw [this]; omega
  have e : (Op.stringOp .add x y).run P w = .ok (.string (x ++ y)) w := by
    unfold Op.stringOp
    simp only [if_neg hc]
    rfl
  have e0 : ∀ u : World, Sem.run P (if (!false) = true then (pure () : Sem Unit) else pure ()) u = .ok () u := fun _ => rfl
  simp [execOp, h1, h2]
  simp only [eqGuard, binOp]
  rw [e0]
  simp only [Result.andThen]
  rw [e]
theorem sp_size : (⟨#[32]⟩ : ByteArray).size = 1 := rfl
set_option maxRecDepth 100000 in
set_option maxHeartbeats 4000000 in
theorem conform_PrintList_err (t : ByteArray) (r : Int) (v : Value) (es : List Ev) (W : World) (hs : SlE W v es) (he : editsErr t r es ≠ 0) :
    Calls Tryz.prog 5 #[.agg #[.string t, .int .i64 r, v]] W fun e w' => e = .returned (.tuple #[.string ⟨#[]⟩, .int .i64 (editsErr t r es)]) ∧ Below W.heap.size W w' := by
  have Hck := Lib.hid (fun (u : World) (hu : Below W.heap.size W u) => conform_CheckList t r v es u (hs.keep hu))
  obtain ⟨a, c, rfl, _, _⟩ := hs
  generalize editsErr t r es = er at *
  generalize es.length = n at *
  have he2 : (er != 0) = true := by simpa using he
  go_enter Tryz.func5, Tryz.ntmps5
  go_upto_region 1 with fail
  refine name_world ?_
  intro w0 hw0
  have x2 : Bx w0 W.heap.size 24 #[.string t, .int .i64 r, .slice a n c] := by rw [hw0]; exact Bx.new _ _ _
  have B0 : Below W.heap.size W w0 := by rw [hw0]; exact bnew (Below.refl _ W)
  clear hw0
  obtain ⟨q2, f2, l2⟩ := x2.all
  go_wp2_with fail
  refine (Hck.out w0 B0).mono ?_
  rintro e w1 ⟨rfl, hb1⟩
  have B1 := bcall B0 hb1
  go_wp2_with fail
  go_ret2
  exact ⟨rfl, B1⟩

set_option maxRecDepth 100000 in
set_option maxHeartbeats 16000000 in
theorem conform_PrintList_ok (t : ByteArray) (r : Int) (v : Value) (es : List Ev) (W : World) (hs : SlE W v es) (E : EnvT W) (her : editsErr t r es = 0) :
    Calls Tryz.prog 5 #[.agg #[.string t, .int .i64 r, v]] W fun e w' => ∃ tx er, e = .returned (.tuple #[.string tx, .int .i64 er]) ∧ (er = 0 → FitD r es ∧ tx = ofL (textR t r es 0 (es.length + 2))) ∧ Below W.heap.size W w' := by
  have Hck := Lib.hid (fun (u : World) (hu : Below W.heap.size W u) => conform_CheckList t r v es u (hs.keep hu))
  obtain ⟨ht, hr, hl5, hok⟩ := list_ok her
  rw [her] at Hck
  obtain ⟨r1, r2, r3⟩ := rate_dec hr
  have hln := textR_len ht hr hok
  obtain ⟨a, c, rfl, hmax, hform⟩ := hs
  obtain ⟨n, hn⟩ : ∃ n, n = es.length := ⟨_, rfl⟩
  have hts := (name_len ht).2
  rw [← Lib.size_eq] at hts
  obtain ⟨R, hR⟩ : ∃ R, R = ofL (Lib.decDigits r.toNat) := ⟨_, rfl⟩
  have hRs : R.size = 2 := by rw [hR, ofL_size, r3]; rfl
  have I1 := Lib.hid (fun w E => t_ItoaI r (by omega) (by omega) w E)
  rw [← hR] at I1
  have hH : (⟨#[84, 73, 84, 76, 69, 58, 32]⟩ : ByteArray) ++ t ++ ⟨#[10, 82, 65, 84, 69, 58, 32]⟩ ++ R ++ ⟨#[10]⟩ = ofL (textR t r es 0 2) := by
    rw [hR]
    apply ofL_of
    simp [ByteArray.data_append, textR, lineT, lineWs, joinW, titW, ratW, ofL]
  have HH := Lib.hid hH
  have hl2 := hln 2 0 (by omega)
  have Hok := Lib.hid hok
  have Hr := Lib.hid hr
  have Hln := Lib.hid hln
  have Hn := Lib.hid hn
  have HR := Lib.hid hR
  rw [← hn] at hl5 hmax hform Hck Hln ⊢
  clear her ht hr hok hln hH hR r3 hmax hn
  go_enter Tryz.func5, Tryz.ntmps5
  go_upto_region 1 with fail
  refine name_world ?_
  intro w0 hw0
  have x1 : Bx w0 W.heap.size 24 #[.string t, .int .i64 r, .slice a n c] := by rw [hw0]; exact Bx.new _ _ _
  have B : Below W.heap.size W w0 := by rw [hw0]; exact bnew (Below.refl _ W)
  clear hw0
  obtain ⟨q1, f1, l1⟩ := x1.all
  go_wp2_with fail
  refine (Hck.out w0 B).mono ?_
  rintro e w1 ⟨rfl, hb1⟩
  replace x1 := x1.keep hb1
  replace B := bcall B hb1
  clear hb1 q1 f1 l1 Hck
  go_upto_region 5 with fail
  refine name_world ?_
  intro w3 hw3
  obtain ⟨pB, hpB⟩ : ∃ g, g = w1.heap.size := ⟨_, rfl⟩
  have bt : BT pB [] w3 := by rw [hw3, hpB]; exact Lib.fresh_isBuilder _ _ _
  have hWB : W.heap.size < pB := by rw [hpB]; exact x1.lt
  replace x1 : Bx w3 W.heap.size 24 #[.string t, .int .i64 r, .slice a n c] := by rw [hw3]; exact Bx.alloc x1 _
  replace B : Below W.heap.size W w3 := by rw [hw3]; exact bnew B
  rw [← hpB]
  clear hw3 hpB
  obtain ⟨q1, f1, l1⟩ := x1.all
  have E3 := E.below B
  refine wp_region_tail (fun z : BW w3.heap.size w3 => z.w) 9 (by kernel_rfl) (by kernel_rfl) (BW.start _ _) rfl ?_
  simp only [List.take_succ_cons, List.take_zero, List.drop_succ_cons, List.drop_zero]
  repeat (go_big_quiet_step (exact BW.call (Nat.le_refl _) _ (I1.out _ (E3.below (BW.below _)))))
  refine wpQuiet_nil ?_
  intro z
  have hzb := z.below
  generalize z.w = w4 at *
  clear z
  replace bt := bt.keep hzb
  replace x1 := x1.keep hzb
  replace B := B.trans (hzb.mono B.size)
  clear hzb q1 f1 l1 E3 I1
  go_wp2_with fail
  refine (bt_write_at pB [] (textR t r es 0 2) _ _ HH.out bt (by simp; omega)).mono ?_
  rw [List.nil_append]
  rintro e w5 ⟨⟨nw, rfl⟩, bt2, Bw⟩
  replace bt := bt2
  have x1 := bx_below x1 Bw hWB
  replace B := B.trans (Bw.mono (by omega))
  clear bt2 Bw HH hts hRs
  obtain ⟨q1, f1, l1⟩ := x1.all
  go_wp2_with fail
  go_loopw [32] (fun iv wr => ∃ k : Nat, k ≤ n ∧ iv = .int .i64 (k : Int) ∧ Hid (∀ j, j < k → Fit1 r (es.getD j default)) ∧ BT pB (textR t r es 0 (k + 2)) wr ∧ Bx wr W.heap.size 24 #[.string t, .int .i64 r, .slice a n c] ∧ Below W.heap.size W wr) (fun iv _ => n - (intOf iv).toNat)
  case atStart => exact ⟨0, Nat.zero_le _, rfl, Lib.hid (fun j hj => by omega), bt, x1, B⟩
  case round =>
    clear bt x1 B q1 f1 l1
    obtain ⟨k, hk, rfl, HF, bt, x1, B⟩ := hrel
    by_cases hlt : k < n
    · rcases hform with h0 | ⟨b, o, rfl, hbl, hat⟩
      · exfalso
        have := Hn.out
        rw [h0] at this
        simp at this
        omega
      obtain ⟨c0, c1, c2, c3, c4, c5⟩ := (hat k hlt).keep B hbl
      obtain ⟨a1, a2, a3, a4, a5, a6, a7, a8, a9⟩ := ev_facts Hok.out (k := k) (by rw [← Hn.out]; exact hlt)
      have hline : lineT t r es (k + 2) = joinW (evWs r (es.getD k default) k) ++ [10] := rfl
      have hfit : Fit1 r (es.getD k default) → ∀ j, j < k + 1 → Fit1 r (es.getD j default) := fun h j hj => by
        rcases Nat.lt_or_eq_of_le (Nat.le_of_lt_succ hj) with h1 | h1
        · exact HF.out j h1
        · rw [h1]; exact h
      have hnl := Hln.out (k + 2) 0 (by omega)
      have hnl3 := Hln.out (k + 3) 0 (by omega)
      have hsn := textR_snoc t r es (k + 2) 0
      rw [Nat.zero_add, hline] at hsn
      have hrl := (name_len a1).2
      rw [← Lib.size_eq] at hrl
      unfold evWs at hsn
      rw [line_codes] at hsn
      unfold Fit1 at hfit
      generalize es.getD k default = ev at *
      obtain ⟨reel, kind, len, inn, out, pos⟩ := ev
      simp only [] at c0 c1 c2 c3 c4 c5 a2 a3 a4 a5 a6 a7 a8 a9 hsn hfit hrl
      have Hfit := Lib.hid hfit
      have Hsn := Lib.hid hsn
      have Hnl3 := Lib.hid hnl3
      clear hline hfit hsn a1 hnl3
      have hki : (k : Int) < (n : Int) := by omega
      go_upto_region 9 with fail
      refine name_world ?_
      intro w3 hw3
      have x7 : Bx w3 wr.heap.size 55 #[.string reel, .int .i64 kind, .int .i64 len, .int .i64 inn, .int .i64 out, .int .i64 pos] := by rw [hw3]; exact Bx.new _ _ _
      have hb3 : Below wr.heap.size wr w3 := by rw [hw3]; exact bnew (Below.refl _ _)
      have hszb := B.size
      have hBp := bt.lt
      replace bt := bt.keep hb3
      replace x1 := x1.keep hb3
      replace B := B.trans (hb3.mono hszb)
      have hB7 : pB < wr.heap.size := hBp
      clear hw3 hb3 c0 c1 c2 c3 c4 c5
      generalize wr.heap.size = p7 at *
      have hmax7 : pB ≠ p7 := by omega
      obtain ⟨kd, rfl⟩ : ∃ kd : Nat, kind = (kd : Int) := ⟨kind.toNat, by omega⟩
      have hk3 : kd < 3 := by omega
      obtain ⟨KW, hKW⟩ : ∃ KW, KW = ofL (kindW (kd : Int)) := ⟨_, rfl⟩
      have hkw : (#[.string ⟨#[]⟩, .string ⟨#[67]⟩, .string ⟨#[68]⟩] : Array Value)[kd]? = some (.string KW) := by
        rw [hKW]
        rcases (by omega : kd = 1 ∨ kd = 2) with rfl | rfl <;> rfl
      have hKs : KW.size = 1 := by
        rw [hKW]
        rcases (by omega : kd = 1 ∨ kd = 2) with rfl | rfl <;> rfl
      obtain ⟨PA, hPA⟩ : ∃ PA, PA = ofL (pad3 (k + 1)) := ⟨_, rfl⟩
      obtain ⟨PB, hPB⟩ : ∃ PB, PB = ofL (pad3 len.toNat) := ⟨_, rfl⟩
      have hPAs : PA.size = 3 := by rw [hPA]; rfl
      have hPBs : PB.size = 3 := by rw [hPB]; rfl
      have KPA := Lib.hid (fun w E => padded_int ((k : Int) + 1) (by omega) (by omega) w E)
      have KPB := Lib.hid (fun w E => padded_int len (by omega) (by omega) w E)
      rw [show ((k : Int) + 1).toNat = k + 1 by omega, ← hPA] at KPA
      rw [← hPB] at KPB
      have hS : PA ++ (⟨#[32]⟩ : ByteArray) ++ reel ++ (⟨#[32]⟩ : ByteArray) ++ KW ++ (⟨#[32]⟩ : ByteArray) ++ PB = ofL (pad3 (k + 1) ++ [32] ++ reel.data.toList ++ [32] ++ kindW (kd : Int) ++ [32] ++ pad3 len.toNat) := app_ofL (app_ofL (app_ofL (app_ofL (app_ofL (app_ofL hPA rfl) (ofL_of rfl)) rfl) hKW) rfl) hPB
      have HS := Lib.hid hS
      have hl9 : (pad3 (k + 1) ++ [32] ++ reel.data.toList ++ [32] ++ kindW (kd : Int) ++ [32] ++ pad3 len.toNat).length ≤ 60 := by
        have h1 := congrArg ByteArray.size hS
        rw [ofL_size] at h1
        simp only [ByteArray.size_append, sp_size] at h1
        omega
      generalize pad3 (k + 1) ++ [32] ++ reel.data.toList ++ [32] ++ kindW (kd : Int) ++ [32] ++ pad3 len.toNat = L9 at *
      clear hS hPA hPB hKW
      have E3 := E.below B
      refine wp_region_grd 19 (fun _ => false) (fun q u w' => if q = 8 then ∃ gn, u = .slice (some ⟨gn, 0, none⟩) 3 3 ∧ Bx w' gn 9 #[.string ⟨#[]⟩, .string ⟨#[67]⟩, .string ⟨#[68]⟩] else if q = 11 then ∃ gn, u = .pointer (some ⟨gn, kd, none⟩) ∧ Bx w' gn 9 #[.string ⟨#[]⟩, .string ⟨#[67]⟩, .string ⟨#[68]⟩] else u = [.int .i64 (k : Int), .int .i64 ((k : Int) + 1), .string PA, .string (PA ++ (⟨#[32]⟩ : ByteArray)), .pointer (some ⟨p7, 0, none⟩), .string reel, .string (PA ++ (⟨#[32]⟩ : ByteArray) ++ reel), .string (PA ++ (⟨#[32]⟩ : ByteArray) ++ reel ++ (⟨#[32]⟩ : ByteArray)), undef, .pointer (some ⟨p7, 1, none⟩), .int .i64 (kd : Int), undef, .string KW, .string (PA ++ (⟨#[32]⟩ : ByteArray) ++ reel ++ (⟨#[32]⟩ : ByteArray) ++ KW), .string (PA ++ (⟨#[32]⟩ : ByteArray) ++ reel ++ (⟨#[32]⟩ : ByteArray) ++ KW ++ (⟨#[32]⟩ : ByteArray)), .pointer (some ⟨p7, 2, none⟩), .int .i64 len, .string PB, .string (PA ++ (⟨#[32]⟩ : ByteArray) ++ reel ++ (⟨#[32]⟩ : ByteArray) ++ KW ++ (⟨#[32]⟩ : ByteArray) ++ PB)].getD q undef) (fun _ => false) (fun w' => Below w3.heap.size w3 w') (by kernel_rfl) (by kernel_rfl) (fun _ _ _ _ _ h => h)
        (fun _ _ h e => e.trans (h.mono e.size)) (fun t u a' b' hb h => ?_) (Below.refl _ _).drew ?_ ?_ ?_
      · split
        · rename_i h4
          rw [if_pos h4] at h
          obtain ⟨gn, e1, e3⟩ := h
          exact ⟨gn, e1, e3.keep hb⟩
        · rename_i h4
          rw [if_neg h4] at h
          split
          · rename_i h5
            rw [if_pos h5] at h
            obtain ⟨gn, e1, e3⟩ := h
            exact ⟨gn, e1, e3.keep hb⟩
          · rename_i h5
            rw [if_neg h5] at h
            exact h
      · intro t op ht hlt hop
        clear hlt
        rcases (by omega : t = 0 ∨ t = 1 ∨ t = 2 ∨ t = 3 ∨ t = 4 ∨ t = 5 ∨ t = 6 ∨ t = 7 ∨ t = 8 ∨ t = 9 ∨ t = 10 ∨ t = 11 ∨ t = 12 ∨ t = 13 ∨ t = 14 ∨ t = 15 ∨ t = 16 ∨ t = 17 ∨ t = 18) with rfl | rfl | rfl | rfl | rfl | rfl | rfl | rfl | rfl | rfl | rfl | rfl | rfl | rfl | rfl | rfl | rfl | rfl | rfl
        all_goals simp only [List.getElem?_cons_zero, List.getElem?_cons_succ, Option.some.injEq] at hop
        all_goals subst hop
        all_goals intro a wx hE hag hdep
        · refine grd_none rfl ?_
          have e0 := slot_eq (hag 6 rfl)
          exact rel_pure _ rfl rfl (by simp [go_sem, e0])
        · refine grd_none rfl ?_
          have e0 := slot_eq (hdep ⟨0, .data⟩ (by simp) rfl)
          have hw : IntKind.i64.wrap ((k : Int) + 1) = (k : Int) + 1 := IntWalk.i64_in _ (by omega)
          exact rel_pure _ rfl rfl (by simp [go_sem, e0, hw])
        · refine grd_none rfl ?_
          have e0 := slot_eq (hdep ⟨1, .data⟩ (by simp) rfl)
          refine rel_call (f := 14) (args := #[.int .i64 ((k : Int) + 1)]) (run_go_call Tryz.func14 (by kernel_rfl) (by kernel_rfl) _ _ _ _ _ _ _ _ _ _ (by simp [Act.eval, e0])) rfl ?_
          refine (KPA.out wx (E3.below hE)).mono ?_
          rintro e w' ⟨rfl, hbx⟩
          exact ⟨_, rfl, rfl, hbx⟩
        · refine grd_none rfl ?_
          have e0 := slot_eq (hdep ⟨2, .data⟩ (by simp) rfl)
          exact rel_pure _ rfl rfl (run_cat rfl (by simp [Act.eval, e0]) (rfl) (by simp only [ByteArray.size_append, sp_size]; omega))
        · refine grd_none rfl ?_
          have e0 := slot_eq (hag 7 rfl)
          exact rel_pure _ rfl rfl (by simp [go_sem, e0])
        · refine grd_none rfl ?_
          have e0 := slot_eq (hdep ⟨4, .data⟩ (by simp) rfl)
          have hq := (x7.keep hE).all.1
          exact rel_pure _ rfl rfl (by simp [go_sem, e0, hq])
        · refine grd_none rfl ?_
          have e0 := slot_eq (hdep ⟨3, .data⟩ (by simp) rfl)
          have e1 := slot_eq (hdep ⟨5, .data⟩ (by simp) rfl)
          exact rel_pure _ rfl rfl (run_cat rfl (by simp [Act.eval, e0]) (by simp [Act.eval, e1]) (by simp only [ByteArray.size_append, sp_size]; omega))
        · refine grd_none rfl ?_
          have e0 := slot_eq (hdep ⟨6, .data⟩ (by simp) rfl)
          exact rel_pure _ rfl rfl (run_cat rfl (by simp [Act.eval, e0]) (rfl) (by simp only [ByteArray.size_append, sp_size]; omega))
        · refine grd_none rfl ?_
          exact rel_val (v := .slice (some ⟨wx.heap.size, 0, none⟩) 3 3) (w' := wx.alloc (.cells #[.string ⟨#[]⟩, .string ⟨#[67]⟩, .string ⟨#[68]⟩] 9)) (by simp [go_sem]) ⟨wx.heap.size, rfl, Bx.new _ _ _⟩ ((Below.refl _ _).alloc (Nat.le_refl _) _) (fun h => by cases h)
        · refine grd_none rfl ?_
          have e0 := slot_eq (hag 7 rfl)
          exact rel_pure _ rfl rfl (by simp [go_sem, e0])
        · refine grd_none rfl ?_
          have e0 := slot_eq (hdep ⟨9, .data⟩ (by simp) rfl)
          have hq := (x7.keep hE).all.1
          exact rel_pure _ rfl rfl (by simp [go_sem, e0, hq])
        · refine grd_none rfl ?_
          obtain ⟨gn, e1, xn⟩ := hdep ⟨8, .data⟩ (by simp) rfl
          have e1 := slot_eq e1
          have e2 := slot_eq (hdep ⟨10, .data⟩ (by simp) rfl)
          exact rel_val (v := .pointer (some ⟨gn, kd, none⟩)) (w' := wx) (by simp [go_sem, e1, e2, show ¬ (3 : Int) ≤ (kd : Int) by omega]) ⟨gn, rfl, xn⟩ (Below.refl _ _) (fun h => by cases h)
        · refine grd_none rfl ?_
          obtain ⟨gn, e1, xn⟩ := hdep ⟨11, .data⟩ (by simp) rfl
          have e1 := slot_eq e1
          have hq := xn.all.1 kd
          rw [hkw] at hq
          exact rel_pure _ rfl rfl (by simp [go_sem, e1, hq])
        · refine grd_none rfl ?_
          have e0 := slot_eq (hdep ⟨7, .data⟩ (by simp) rfl)
          have e1 := slot_eq (hdep ⟨12, .data⟩ (by simp) rfl)
          exact rel_pure _ rfl rfl (run_cat rfl (by simp [Act.eval, e0]) (by simp [Act.eval, e1]) (by simp only [ByteArray.size_append, sp_size]; omega))
        · refine grd_none rfl ?_
          have e0 := slot_eq (hdep ⟨13, .data⟩ (by simp) rfl)
          exact rel_pure _ rfl rfl (run_cat rfl (by simp [Act.eval, e0]) (rfl) (by simp only [ByteArray.size_append, sp_size]; omega))
        · refine grd_none rfl ?_
          have e0 := slot_eq (hag 7 rfl)
          exact rel_pure _ rfl rfl (by simp [go_sem, e0])
        · refine grd_none rfl ?_
          have e0 := slot_eq (hdep ⟨15, .data⟩ (by simp) rfl)
          have hq := (x7.keep hE).all.1
          exact rel_pure _ rfl rfl (by simp [go_sem, e0, hq])
        · refine grd_none rfl ?_
          have e0 := slot_eq (hdep ⟨16, .data⟩ (by simp) rfl)
          refine rel_call (f := 14) (args := #[.int .i64 len]) (run_go_call Tryz.func14 (by kernel_rfl) (by kernel_rfl) _ _ _ _ _ _ _ _ _ _ (by simp [Act.eval, e0])) rfl ?_
          refine (KPB.out wx (E3.below hE)).mono ?_
          rintro e w' ⟨rfl, hbx⟩
          exact ⟨_, rfl, rfl, hbx⟩
        · refine grd_none rfl ?_
          have e0 := slot_eq (hdep ⟨14, .data⟩ (by simp) rfl)
          have e1 := slot_eq (hdep ⟨17, .data⟩ (by simp) rfl)
          exact rel_pure _ rfl rfl (run_cat rfl (by simp [Act.eval, e0]) (by simp [Act.eval, e1]) (by simp only [ByteArray.size_append, sp_size]; omega))
      · intro t op ht hlt; cases hlt
      · intro vs wy hE hvs _
        have kz : vs 18 = .string (PA ++ (⟨#[32]⟩ : ByteArray) ++ reel ++ (⟨#[32]⟩ : ByteArray) ++ KW ++ (⟨#[32]⟩ : ByteArray) ++ PB) := hvs 18 (by omega)
        simp only [List.drop_succ_cons, List.drop_zero, putAll, dstAt, List.getElem?_toArray, List.getElem?_cons_zero, List.getElem?_cons_succ, Option.bind_some, Act.put, List.setIfInBounds_toArray, List.set_cons_zero, List.set_cons_succ, kz]
        clear hvs kz
        replace bt := bt.keep hE
        replace x1 := x1.keep hE
        replace x7 := x7.keep hE
        replace B := B.trans (hE.mono B.size)
        clear hE E3 hkw hKs hPAs hPBs KPA KPB hrl
        go_wp2_with fail
        refine (bt_writeX pB (textR t r es 0 (k + 2)) L9 _ _ HS.out bt (by omega)).mono ?_
        rintro e w8 ⟨⟨nw, rfl⟩, bt2, Bw, ap⟩
        replace x1 := bx_below x1 Bw hWB
        replace x7 := ap _ _ _ (by decide) (fun h => hmax7 h.symm) x7
        replace B := B.trans (Bw.mono (by omega))
        replace bt := bt2
        have hbl2 : (textR t r es 0 (k + 2) ++ L9).length ≤ 51000 := by rw [List.length_append]; omega
        have hb3 : textR t r es 0 (k + 2) ++ L9 ++ codesT r [inn, out, pos, pos + (out - inn)] ++ [10] = textR t r es 0 (k + 3) := by
          rw [Hsn.out]
          simp only [List.append_assoc]
        have HB3 := Lib.hid hb3
        generalize textR t r es 0 (k + 2) ++ L9 = base at *
        clear bt2 Bw ap HS hl9 Hsn hnl hb3
        obtain ⟨fin, hfin⟩ : ∃ fin, fin = pos + (out - inn) := ⟨_, rfl⟩
        rw [← hfin] at HB3
        have HFIN := Lib.hid hfin
        clear hfin
        go_upto_region 10 with fail
        refine name_world ?_
        intro w9 hw9
        rw [← hw9] at x1 x7 bt B
        clear hw9
        refine wp_region_whole 13 (fun q u w' => u = [.pointer (some ⟨p7, 3, none⟩), .int .i64 inn, .pointer (some ⟨p7, 4, none⟩), .int .i64 out, .pointer (some ⟨p7, 5, none⟩), .int .i64 pos, .pointer (some ⟨p7, 5, none⟩), .int .i64 pos, .agg #[.string reel, .int .i64 (kd : Int), .int .i64 len, .int .i64 inn, .int .i64 out, .int .i64 pos], .int .i64 (out - inn), .int .i64 fin, .agg #[.int .i64 inn, .int .i64 out, .int .i64 pos, .int .i64 fin], .int .i64 0].getD q undef) (fun _ => false) (fun w' => Below w9.heap.size w9 w') (by kernel_rfl) (by kernel_rfl)
          (fun _ _ h e => e.trans (h.mono e.size)) (fun t u a b hb h => ?_) (Below.refl _ _).drew ?_ ?_
        · exact h
        · intro t op ht hop
          rcases (by omega : t = 0 ∨ t = 1 ∨ t = 2 ∨ t = 3 ∨ t = 4 ∨ t = 5 ∨ t = 6 ∨ t = 7 ∨ t = 8 ∨ t = 9 ∨ t = 10 ∨ t = 11 ∨ t = 12) with rfl | rfl | rfl | rfl | rfl | rfl | rfl | rfl | rfl | rfl | rfl | rfl | rfl
          all_goals simp only [List.getElem?_cons_zero, List.getElem?_cons_succ, Option.some.injEq] at hop
          all_goals subst hop
          all_goals intro a wx hE hag hdep
          · refine grd_none rfl ?_
            have e0 := slot_eq (hag 7 rfl)
            exact rel_pure _ rfl rfl (by simp [go_sem, e0])
          · refine grd_none rfl ?_
            have e0 := slot_eq (hdep ⟨0, .data⟩ (by simp) rfl)
            have hq := (x7.keep hE).all.1
            exact rel_pure _ rfl rfl (by simp [go_sem, e0, hq])
          · refine grd_none rfl ?_
            have e0 := slot_eq (hag 7 rfl)
            exact rel_pure _ rfl rfl (by simp [go_sem, e0])
          · refine grd_none rfl ?_
            have e0 := slot_eq (hdep ⟨2, .data⟩ (by simp) rfl)
            have hq := (x7.keep hE).all.1
            exact rel_pure _ rfl rfl (by simp [go_sem, e0, hq])
          · refine grd_none rfl ?_
            have e0 := slot_eq (hag 7 rfl)
            exact rel_pure _ rfl rfl (by simp [go_sem, e0])
          · refine grd_none rfl ?_
            have e0 := slot_eq (hdep ⟨4, .data⟩ (by simp) rfl)
            have hq := (x7.keep hE).all.1
            exact rel_pure _ rfl rfl (by simp [go_sem, e0, hq])
          · refine grd_none rfl ?_
            have e0 := slot_eq (hag 7 rfl)
            exact rel_pure _ rfl rfl (by simp [go_sem, e0])
          · refine grd_none rfl ?_
            have e0 := slot_eq (hdep ⟨6, .data⟩ (by simp) rfl)
            have hq := (x7.keep hE).all.1
            exact rel_pure _ rfl rfl (by simp [go_sem, e0, hq])
          · refine grd_none rfl ?_
            have e0 := slot_eq (hag 7 rfl)
            have hq := (x7.keep hE).all.1
            exact rel_pure _ rfl rfl (by simp [go_sem, e0, hq])
          · refine grd_none rfl ?_
            have e0 := slot_eq (hdep ⟨8, .data⟩ (by simp) rfl)
            refine rel_call (f := 15) (args := #[.agg #[.string reel, .int .i64 (kd : Int), .int .i64 len, .int .i64 inn, .int .i64 out, .int .i64 pos]]) (run_go_call Tryz.func15 (by kernel_rfl) (by kernel_rfl) _ _ _ _ _ _ _ _ _ _ (by simp [Act.eval, e0])) rfl ?_
            refine (conform_long reel (kd : Int) len inn out pos wx (by omega) (by omega) (by omega)).mono ?_
            rintro e w' ⟨rfl, hbx⟩
            exact ⟨_, rfl, rfl, hbx⟩
          · refine grd_none rfl ?_
            have e0 := slot_eq (hdep ⟨7, .data⟩ (by simp) rfl)
            have e1 := slot_eq (hdep ⟨9, .data⟩ (by simp) rfl)
            have hw : IntKind.i64.wrap (pos + (out - inn)) = fin := by rw [HFIN.out]; exact IntWalk.i64_in _ (by omega)
            exact rel_pure _ rfl rfl (by simp [go_sem, e0, e1, hw])
          · refine grd_none rfl ?_
            have e0 := slot_eq (hdep ⟨1, .data⟩ (by simp) rfl)
            have e1 := slot_eq (hdep ⟨3, .data⟩ (by simp) rfl)
            have e2 := slot_eq (hdep ⟨5, .data⟩ (by simp) rfl)
            have e3 := slot_eq (hdep ⟨10, .data⟩ (by simp) rfl)
            exact rel_pure _ rfl rfl (by simp [go_sem, e0, e1, e2, e3])
          · refine grd_none rfl ?_
            exact rel_pure _ rfl rfl (by simp [go_sem])
        · intro vs wy hE hvs _
          have kz : vs 11 = .agg #[.int .i64 inn, .int .i64 out, .int .i64 pos, .int .i64 fin] := hvs 11 (by omega)
          have kz2 : vs 12 = .int .i64 0 := hvs 12 (by omega)
          simp only [List.drop_succ_cons, List.drop_zero, putAll, dstAt, List.getElem?_toArray, List.getElem?_cons_zero, List.getElem?_cons_succ, Option.bind_some, Act.put, List.setIfInBounds_toArray, List.set_cons_zero, List.set_cons_succ, kz, kz2]
          clear hvs kz kz2
          replace bt := bt.keep hE
          replace x1 := x1.keep hE
          replace B := B.trans (hE.mono B.size)
          clear hE x7
          obtain ⟨q1, f1, l1⟩ := x1.all
          go_wp2_with fail
          go_loopw [69] (fun iv wr => ∃ i : Nat, i ≤ 4 ∧ iv = .int .i64 (i : Int) ∧ Hid (∀ m, m ∈ [inn, out, pos, fin].take i → m < dayN r) ∧ BT pB (base ++ codesT r ([inn, out, pos, fin].take i)) wr ∧ Bx wr W.heap.size 24 #[.string t, .int .i64 r, .slice (some ⟨b, o, none⟩) n c] ∧ Below W.heap.size W wr) (fun iv _ => 4 - (intOf iv).toNat)
          case atStart => exact ⟨0, by omega, rfl, Lib.hid (fun m hm => by simp at hm), by simpa [codesT] using bt, x1, B⟩
          case round =>
            clear bt x1 B q1 f1 l1
            obtain ⟨i, hi, rfl, HM, bt, x1, B⟩ := hrel
            have hcl := codesT_len Hr.out ([inn, out, pos, fin].take i)
            have hcl2 : ([inn, out, pos, fin].take i).length ≤ 4 := by simp [List.length_take]; omega
            rcases (by omega : i = 0 ∨ i = 1 ∨ i = 2 ∨ i = 3 ∨ i = 4) with rfl | rfl | rfl | rfl | rfl
            · obtain ⟨CT, hCT⟩ : ∃ CT, CT = ofL (codeT r inn) := ⟨_, rfl⟩
              have hCs : CT.size = 11 := by rw [hCT, ofL_size]; exact (codeT_vw Hr.out).2
              have hc11 := (codeT_vw (r := r) (n := inn) Hr.out).2
              have hSC := sp_code r inn
              have KP := Lib.hid (fun w => print_code r inn Hr.out w)
              rw [← hCT] at hSC KP
              have HSC := Lib.hid hSC
              have HCT := Lib.hid hCT
              have hsn := codesT_snoc r ([inn, out, pos, fin].take 0) inn
              have HSN := Lib.hid hsn
              clear hSC hCT hsn
              have hix : ∀ w, (Instr.index 58 (.agg #[.int .i64 inn, .int .i64 out, .int .i64 pos, .int .i64 fin]) (.int .i64 0)).run Tryz.prog w = .ok (.int .i64 inn) w := fun w => by kernel_rfl
              obtain ⟨q1, f1, l1⟩ := x1.all
              go_wp2_with fail
              refine (conform_day r Hr.out _).mono ?_
              rintro e w10 ⟨rfl, rfl⟩
              by_cases hd : dayN r ≤ inn
              · have ed : decide (dayN r ≤ inn) = true := decide_eq_true hd
                go_wp2_with fail
                go_ret2
                exact ⟨_, 3, rfl, fun h => absurd h (by decide), B⟩
              have ed : decide (dayN r ≤ inn) = false := decide_eq_false hd
              go_wp2_with fail
              refine (conform_CodeOf_ok r inn _ Hr.out).mono ?_
              rintro e w11 ⟨rfl, hb⟩
              clear q1 f1 l1
              replace bt := bt.keep hb
              replace x1 := x1.keep hb
              replace B := bcall B hb
              clear hb
              obtain ⟨q1, f1, l1⟩ := x1.all
              generalize codeOfH r inn = ch at *
              generalize codeOfM r inn = cm at *
              generalize codeOfS r inn = cs at *
              generalize codeOfF r inn = cf at *
              go_wp2_with fail
              refine nm_call ?_
              intro w12 hw12
              have hb := below_eq hw12
              clear hw12 q1 f1 l1
              replace bt := bt.keep hb
              replace x1 := x1.keep hb
              replace B := bcall B hb
              clear hb
              refine (KP.out _).mono ?_
              rintro e w13 ⟨rfl, hb⟩
              replace bt := bt.keep hb
              replace x1 := x1.keep hb
              replace B := bcall B hb
              clear hb KP
              obtain ⟨q1, f1, l1⟩ := x1.all
              go_wp2_with fail
              refine (bt_writeX pB _ (32 :: codeT r inn) _ _ HSC.out bt (by rw [List.length_append, List.length_cons]; omega)).mono ?_
              rintro e w14 ⟨⟨nw, rfl⟩, bt2, Bw, _⟩
              replace x1 := bx_below x1 Bw hWB
              replace B := B.trans (Bw.mono (by omega))
              have bt3 : BT pB (base ++ codesT r ([inn, out, pos, fin].take 1)) w14 := by
                have e : [inn, out, pos, fin].take 1 = [inn, out, pos, fin].take 0 ++ [inn] := rfl
                rw [e, HSN.out, ← List.append_assoc]
                exact bt2
              have HM2 := Lib.hid (fun z (hz : z ∈ [inn, out, pos, fin].take 1) => show z < dayN r from by
                rw [show [inn, out, pos, fin].take 1 = [inn, out, pos, fin].take 0 ++ [inn] from rfl, List.mem_append, List.mem_singleton] at hz
                rcases hz with hz | hz
                · exact HM.out z hz
                · rw [hz]; omega)
              clear bt bt2 Bw q1 f1 l1 HM
              go_wp2_with fail
              go_roundw
              case rel => exact ⟨1, by omega, by go_num, HM2, bt3, x1, B⟩
              case measure => simp [intOf]
            · obtain ⟨CT, hCT⟩ : ∃ CT, CT = ofL (codeT r out) := ⟨_, rfl⟩
              have hCs : CT.size = 11 := by rw [hCT, ofL_size]; exact (codeT_vw Hr.out).2
              have hc11 := (codeT_vw (r := r) (n := out) Hr.out).2
              have hSC := sp_code r out
              have KP := Lib.hid (fun w => print_code r out Hr.out w)
              rw [← hCT] at hSC KP
              have HSC := Lib.hid hSC
              have HCT := Lib.hid hCT
              have hsn := codesT_snoc r ([inn, out, pos, fin].take 1) out
              have HSN := Lib.hid hsn
              clear hSC hCT hsn
              have hix : ∀ w, (Instr.index 58 (.agg #[.int .i64 inn, .int .i64 out, .int .i64 pos, .int .i64 fin]) (.int .i64 1)).run Tryz.prog w = .ok (.int .i64 out) w := fun w => by kernel_rfl
              obtain ⟨q1, f1, l1⟩ := x1.all
              go_wp2_with fail
              refine (conform_day r Hr.out _).mono ?_
              rintro e w10 ⟨rfl, rfl⟩
              by_cases hd : dayN r ≤ out
              · have ed : decide (dayN r ≤ out) = true := decide_eq_true hd
                go_wp2_with fail
                go_ret2
                exact ⟨_, 3, rfl, fun h => absurd h (by decide), B⟩
              have ed : decide (dayN r ≤ out) = false := decide_eq_false hd
              go_wp2_with fail
              refine (conform_CodeOf_ok r out _ Hr.out).mono ?_
              rintro e w11 ⟨rfl, hb⟩
              clear q1 f1 l1
              replace bt := bt.keep hb
              replace x1 := x1.keep hb
              replace B := bcall B hb
              clear hb
              obtain ⟨q1, f1, l1⟩ := x1.all
              generalize codeOfH r out = ch at *
              generalize codeOfM r out = cm at *
              generalize codeOfS r out = cs at *
              generalize codeOfF r out = cf at *
              go_wp2_with fail
              refine nm_call ?_
              intro w12 hw12
              have hb := below_eq hw12
              clear hw12 q1 f1 l1
              replace bt := bt.keep hb
              replace x1 := x1.keep hb
              replace B := bcall B hb
              clear hb
              refine (KP.out _).mono ?_
              rintro e w13 ⟨rfl, hb⟩
              replace bt := bt.keep hb
              replace x1 := x1.keep hb
              replace B := bcall B hb
              clear hb KP
              obtain ⟨q1, f1, l1⟩ := x1.all
              go_wp2_with fail
              refine (bt_writeX pB _ (32 :: codeT r out) _ _ HSC.out bt (by rw [List.length_append, List.length_cons]; omega)).mono ?_
              rintro e w14 ⟨⟨nw, rfl⟩, bt2, Bw, _⟩
              replace x1 := bx_below x1 Bw hWB
              replace B := B.trans (Bw.mono (by omega))
              have bt3 : BT pB (base ++ codesT r ([inn, out, pos, fin].take 2)) w14 := by
                have e : [inn, out, pos, fin].take 2 = [inn, out, pos, fin].take 1 ++ [out] := rfl
                rw [e, HSN.out, ← List.append_assoc]
                exact bt2
              have HM2 := Lib.hid (fun z (hz : z ∈ [inn, out, pos, fin].take 2) => show z < dayN r from by
                rw [show [inn, out, pos, fin].take 2 = [inn, out, pos, fin].take 1 ++ [out] from rfl, List.mem_append, List.mem_singleton] at hz
                rcases hz with hz | hz
                · exact HM.out z hz
                · rw [hz]; omega)
              clear bt bt2 Bw q1 f1 l1 HM
              go_wp2_with fail
              go_roundw
              case rel => exact ⟨2, by omega, by go_num, HM2, bt3, x1, B⟩
              case measure => simp [intOf]
            · obtain ⟨CT, hCT⟩ : ∃ CT, CT = ofL (codeT r pos) := ⟨_, rfl⟩
              have hCs : CT.size = 11 := by rw [hCT, ofL_size]; exact (codeT_vw Hr.out).2
              have hc11 := (codeT_vw (r := r) (n := pos) Hr.out).2
              have hSC := sp_code r pos
              have KP := Lib.hid (fun w => print_code r pos Hr.out w)
              rw [← hCT] at hSC KP
              have HSC := Lib.hid hSC
              have HCT := Lib.hid hCT
              have hsn := codesT_snoc r ([inn, out, pos, fin].take 2) pos
              have HSN := Lib.hid hsn
              clear hSC hCT hsn
              have hix : ∀ w, (Instr.index 58 (.agg #[.int .i64 inn, .int .i64 out, .int .i64 pos, .int .i64 fin]) (.int .i64 2)).run Tryz.prog w = .ok (.int .i64 pos) w := fun w => by kernel_rfl
              obtain ⟨q1, f1, l1⟩ := x1.all
              go_wp2_with fail
              refine (conform_day r Hr.out _).mono ?_
              rintro e w10 ⟨rfl, rfl⟩
              by_cases hd : dayN r ≤ pos
              · have ed : decide (dayN r ≤ pos) = true := decide_eq_true hd
                go_wp2_with fail
                go_ret2
                exact ⟨_, 3, rfl, fun h => absurd h (by decide), B⟩
              have ed : decide (dayN r ≤ pos) = false := decide_eq_false hd
              go_wp2_with fail
              refine (conform_CodeOf_ok r pos _ Hr.out).mono ?_
              rintro e w11 ⟨rfl, hb⟩
              clear q1 f1 l1
              replace bt := bt.keep hb
              replace x1 := x1.keep hb
              replace B := bcall B hb
              clear hb
              obtain ⟨q1, f1, l1⟩ := x1.all
              generalize codeOfH r pos = ch at *
              generalize codeOfM r pos = cm at *
              generalize codeOfS r pos = cs at *
              generalize codeOfF r pos = cf at *
              go_wp2_with fail
              refine nm_call ?_
              intro w12 hw12
              have hb := below_eq hw12
              clear hw12 q1 f1 l1
              replace bt := bt.keep hb
              replace x1 := x1.keep hb
              replace B := bcall B hb
              clear hb
              refine (KP.out _).mono ?_
              rintro e w13 ⟨rfl, hb⟩
              replace bt := bt.keep hb
              replace x1 := x1.keep hb
              replace B := bcall B hb
              clear hb KP
              obtain ⟨q1, f1, l1⟩ := x1.all
              go_wp2_with fail
              refine (bt_writeX pB _ (32 :: codeT r pos) _ _ HSC.out bt (by rw [List.length_append, List.length_cons]; omega)).mono ?_
              rintro e w14 ⟨⟨nw, rfl⟩, bt2, Bw, _⟩
              replace x1 := bx_below x1 Bw hWB
              replace B := B.trans (Bw.mono (by omega))
              have bt3 : BT pB (base ++ codesT r ([inn, out, pos, fin].take 3)) w14 := by
                have e : [inn, out, pos, fin].take 3 = [inn, out, pos, fin].take 2 ++ [pos] := rfl
                rw [e, HSN.out, ← List.append_assoc]
                exact bt2
              have HM2 := Lib.hid (fun z (hz : z ∈ [inn, out, pos, fin].take 3) => show z < dayN r from by
                rw [show [inn, out, pos, fin].take 3 = [inn, out, pos, fin].take 2 ++ [pos] from rfl, List.mem_append, List.mem_singleton] at hz
                rcases hz with hz | hz
                · exact HM.out z hz
                · rw [hz]; omega)
              clear bt bt2 Bw q1 f1 l1 HM
              go_wp2_with fail
              go_roundw
              case rel => exact ⟨3, by omega, by go_num, HM2, bt3, x1, B⟩
              case measure => simp [intOf]
            · obtain ⟨CT, hCT⟩ : ∃ CT, CT = ofL (codeT r fin) := ⟨_, rfl⟩
              have hCs : CT.size = 11 := by rw [hCT, ofL_size]; exact (codeT_vw Hr.out).2
              have hc11 := (codeT_vw (r := r) (n := fin) Hr.out).2
              have hSC := sp_code r fin
              have KP := Lib.hid (fun w => print_code r fin Hr.out w)
              rw [← hCT] at hSC KP
              have HSC := Lib.hid hSC
              have HCT := Lib.hid hCT
              have hsn := codesT_snoc r ([inn, out, pos, fin].take 3) fin
              have HSN := Lib.hid hsn
              clear hSC hCT hsn
              have hix : ∀ w, (Instr.index 58 (.agg #[.int .i64 inn, .int .i64 out, .int .i64 pos, .int .i64 fin]) (.int .i64 3)).run Tryz.prog w = .ok (.int .i64 fin) w := fun w => by kernel_rfl
              obtain ⟨q1, f1, l1⟩ := x1.all
              go_wp2_with fail
              refine (conform_day r Hr.out _).mono ?_
              rintro e w10 ⟨rfl, rfl⟩
              by_cases hd : dayN r ≤ fin
              · have ed : decide (dayN r ≤ fin) = true := decide_eq_true hd
                go_wp2_with fail
                go_ret2
                exact ⟨_, 3, rfl, fun h => absurd h (by decide), B⟩
              have ed : decide (dayN r ≤ fin) = false := decide_eq_false hd
              go_wp2_with fail
              refine (conform_CodeOf_ok r fin _ Hr.out).mono ?_
              rintro e w11 ⟨rfl, hb⟩
              clear q1 f1 l1
              replace bt := bt.keep hb
              replace x1 := x1.keep hb
              replace B := bcall B hb
              clear hb
              obtain ⟨q1, f1, l1⟩ := x1.all
              generalize codeOfH r fin = ch at *
              generalize codeOfM r fin = cm at *
              generalize codeOfS r fin = cs at *
              generalize codeOfF r fin = cf at *
              go_wp2_with fail
              refine nm_call ?_
              intro w12 hw12
              have hb := below_eq hw12
              clear hw12 q1 f1 l1
              replace bt := bt.keep hb
              replace x1 := x1.keep hb
              replace B := bcall B hb
              clear hb
              refine (KP.out _).mono ?_
              rintro e w13 ⟨rfl, hb⟩
              replace bt := bt.keep hb
              replace x1 := x1.keep hb
              replace B := bcall B hb
              clear hb KP
              obtain ⟨q1, f1, l1⟩ := x1.all
              go_wp2_with fail
              refine (bt_writeX pB _ (32 :: codeT r fin) _ _ HSC.out bt (by rw [List.length_append, List.length_cons]; omega)).mono ?_
              rintro e w14 ⟨⟨nw, rfl⟩, bt2, Bw, _⟩
              replace x1 := bx_below x1 Bw hWB
              replace B := B.trans (Bw.mono (by omega))
              have bt3 : BT pB (base ++ codesT r ([inn, out, pos, fin].take 4)) w14 := by
                have e : [inn, out, pos, fin].take 4 = [inn, out, pos, fin].take 3 ++ [fin] := rfl
                rw [e, HSN.out, ← List.append_assoc]
                exact bt2
              have HM2 := Lib.hid (fun z (hz : z ∈ [inn, out, pos, fin].take 4) => show z < dayN r from by
                rw [show [inn, out, pos, fin].take 4 = [inn, out, pos, fin].take 3 ++ [fin] from rfl, List.mem_append, List.mem_singleton] at hz
                rcases hz with hz | hz
                · exact HM.out z hz
                · rw [hz]; omega)
              clear bt bt2 Bw q1 f1 l1 HM
              go_wp2_with fail
              go_roundw
              case rel => exact ⟨4, by omega, by go_num, HM2, bt3, x1, B⟩
              case measure => simp [intOf]
            · have hnl10 : (base ++ codesT r ([inn, out, pos, fin].take 4)).length + 1 ≤ 1000000 := by rw [List.length_append]; omega
              go_wp2_with fail
              refine (bt_writeX pB _ [10] _ _ (ofL_of rfl) bt (by simpa using hnl10)).mono ?_
              rintro e w14 ⟨⟨nw, rfl⟩, bt2, Bw, _⟩
              replace x1 := bx_below x1 Bw hWB
              replace B := B.trans (Bw.mono (by omega))
              have bt3 : BT pB (textR t r es 0 (k + 3)) w14 := by
                rw [← HB3.out]
                exact bt2
              have HF2 := Lib.hid (Hfit.out ⟨HM.out inn (by simp), HM.out out (by simp), HM.out pos (by simp), by rw [← HFIN.out]; exact HM.out fin (by simp)⟩)
              clear bt bt2 Bw HM
              go_wp2_with fail
              go_roundw
              case rel => exact ⟨k + 1, by omega, by go_num, HF2, bt3, x1, B⟩
              case measure => simp [intOf]; omega
    · obtain rfl : k = n := by omega
      go_wp2_with fail
      refine (Tryz.Builder_String_any pB pB (textR t r es 0 (k + 2)) _ bt (Nat.le_of_lt bt.lt)).mono ?_
      rintro e wx ⟨rfl, hbx⟩
      replace B := B.trans (hbx.mono (show W.heap.size ≤ pB by omega))
      go_wp2_with fail
      go_ret2
      exact ⟨_, 0, rfl, fun _ => ⟨fun j hj => HF.out j (by rw [Hn.out]; exact hj), rfl⟩, B⟩
end Go.Proofs.YtemlabmmafcapaaGreatDoor
