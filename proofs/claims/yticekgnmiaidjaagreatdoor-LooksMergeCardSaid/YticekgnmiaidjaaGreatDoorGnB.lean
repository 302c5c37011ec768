/- Right grades: the plain law; small functions (hasPoints, powered, checkPoints, CheckMixer). -/
import Derived.Test.YticekgnmiaidjaaGreatDoorMem
import Derived.RegionTactic
import Derived.Test.YticekgnmiaidjaaGreatDoorGrS
namespace Go.Proofs.YticekgnmiaidjaaGreatDoor

section
open Go.RowKit

def whenV (b : Bool) (n : Int) : Int := if b then n else 0
theorem ref_When (b : Bool) (n : Int) (W : World) : Calls Tryz.prog 72 #[.bool b, .int .i64 n] W fun e w' => e = .returned (.int .i64 (whenV b n)) ∧ W = w' := by
  cases b
  all_goals
    go_enter Tryz.func72, Tryz.ntmps72
    go_wp2
    go_ret
    exact ⟨rfl, rfl⟩
end

section
open Go.RowKit Go.Lib

theorem all_take2 (p : Nat → Bool) (xs : List Nat) (k : Nat) (h : k < xs.length) : (xs.take (k + 1)).all p = ((xs.take k).all p && p (xs.getD k 0)) := by
  rw [List.take_succ_eq_append_getElem h, List.all_append]
  simp [h]
theorem all_not2 (p : Nat → Bool) (xs : List Nat) (k : Nat) (h : k < xs.length) (hp : p (xs.getD k 0) = false) : xs.all p = false := by
  rw [List.all_eq_false]
  exact ⟨xs.getD k 0, by simp [h], fun e => by rw [hp] at e; cases e⟩

set_option maxRecDepth 100000 in
set_option maxHeartbeats 1000000 in
theorem num_AllAt (xs : List Nat) (b o n c : Nat) (W : World) (hn : xs.length = n) (hn2 : n ≤ 100000) (hrd : Rd W b o xs) :
    Calls Tryz.prog 84 #[.slice (some ⟨b, o, none⟩) n c] W fun e w' => e = .returned (.bool (xs.all isNum)) ∧ Below W.heap.size W w' := by
  have Hn := Lib.hid hn
  clear hn
  go_enter Tryz.func84, Tryz.ntmps84
  go_wp2_with fail
  go_loopw [7] (fun i wr => ∃ k : Nat, k ≤ n ∧ i = .int .i64 (k : Int) ∧ (xs.take k).all isNum = true ∧ Below W.heap.size W wr) (fun i _ => n - (RowKit.intOf i).toNat)
  case atStart => exact ⟨0, by omega, rfl, by simp, Below.refl _ _⟩
  case round =>
    obtain ⟨k, hk, rfl, hall, hbl⟩ := hrel
    have Hall := Lib.hid hall
    clear hall
    by_cases hlt : k < n
    · have hki : (k : Int) < (n : Int) := by omega
      have ck := (hrd.keep hbl).cell k (by rw [Hn.out]; exact hlt)
      have h1 := all_take2 isNum xs k (by rw [Hn.out]; exact hlt)
      rw [Hall.out, Bool.true_and] at h1
      have h2 := all_not2 isNum xs k (by rw [Hn.out]; exact hlt)
      generalize xs.getD k 0 = z at *
      have H1 := Lib.hid h1
      have H2 := Lib.hid h2
      clear h1 h2
      go_wp2_with fail
      refine (num_IsNumber _ _).mono ?_
      rintro e w' ⟨rfl, rfl⟩
      cases hz : isNum z
      · have Hz := Lib.hid hz
        clear hz
        go_wp2_with fail
        go_ret
        exact ⟨ret_bool (H2.out Hz.out).symm, hbl⟩
      · have Hz := Lib.hid hz
        clear hz
        go_wp2_with fail
        go_roundw
        case rel => exact ⟨k + 1, by omega, by go_num, by rw [H1.out, Hz.out], hbl⟩
        case measure => simp [RowKit.intOf]; omega
    · have hkn : k = n := by omega
      subst hkn
      go_wp2_with fail
      go_ret
      exact ⟨ret_bool (by have := Hall.out; rw [List.take_of_length_le (by rw [Hn.out]; omega)] at this; exact this.symm), hbl⟩

set_option maxRecDepth 100000 in
set_option maxHeartbeats 1000000 in
theorem ref_AllAt (xs : List Nat) (b o n c : Nat) (W : World) (hn : xs.length = n) (hn2 : n ≤ 100000) (hrd : Rd W b o xs) :
    Calls Tryz.prog 16 #[.slice (some ⟨b, o, none⟩) n c] W fun e w' => e = .returned (.bool (xs.all isNum)) ∧ Below W.heap.size W w' := by
  have Hn := Lib.hid hn
  clear hn
  go_enter Tryz.func16, Tryz.ntmps16
  go_wp2_with fail
  go_loopw [7] (fun i wr => ∃ k : Nat, k ≤ n ∧ i = .int .i64 (k : Int) ∧ (xs.take k).all isNum = true ∧ Below W.heap.size W wr) (fun i _ => n - (RowKit.intOf i).toNat)
  case atStart => exact ⟨0, by omega, rfl, by simp, Below.refl _ _⟩
  case round =>
    obtain ⟨k, hk, rfl, hall, hbl⟩ := hrel
    have Hall := Lib.hid hall
    clear hall
    by_cases hlt : k < n
    · have hki : (k : Int) < (n : Int) := by omega
      have ck := (hrd.keep hbl).cell k (by rw [Hn.out]; exact hlt)
      have h1 := all_take2 isNum xs k (by rw [Hn.out]; exact hlt)
      rw [Hall.out, Bool.true_and] at h1
      have h2 := all_not2 isNum xs k (by rw [Hn.out]; exact hlt)
      generalize xs.getD k 0 = z at *
      have H1 := Lib.hid h1
      have H2 := Lib.hid h2
      clear h1 h2
      go_wp2_with fail
      refine (ref_IsNumber _ _).mono ?_
      rintro e w2 ⟨rfl, hb2⟩
      cases hz : isNum z
      · have Hz := Lib.hid hz
        clear hz
        go_wp2_with fail
        go_ret
        exact ⟨ret_bool (H2.out Hz.out).symm, (bcall hbl hb2)⟩
      · have Hz := Lib.hid hz
        clear hz
        go_wp2_with fail
        go_roundw
        case rel => exact ⟨k + 1, by omega, by go_num, by rw [H1.out, Hz.out], (bcall hbl hb2)⟩
        case measure => simp [RowKit.intOf]; omega
    · have hkn : k = n := by omega
      subst hkn
      go_wp2_with fail
      go_ret
      exact ⟨ret_bool (by have := Hall.out; rw [List.take_of_length_le (by rw [Hn.out]; omega)] at this; exact this.symm), hbl⟩

set_option maxRecDepth 100000 in
theorem num_All0 (a : Option Addr) (c : Nat) (W : World) : Calls Tryz.prog 84 #[.slice a 0 c] W fun e w' => e = .returned (.bool true) ∧ Below W.heap.size W w' := by
  go_enter Tryz.func84, Tryz.ntmps84
  go_wp2_with fail
  go_loopw [7] (fun i wr => i = .int .i64 0 ∧ Below W.heap.size W wr) (fun i _ => 0)
  case atStart => exact ⟨rfl, Below.refl _ _⟩
  case round =>
    obtain ⟨rfl, hbl⟩ := hrel
    go_wp2_with fail
    go_ret
    exact ⟨rfl, hbl⟩
/-- At an own row. -/
theorem num_AllOwn (xs : List Nat) (v : Value) (B : Nat) (W : World) (h : OwF B W v xs) (hl : xs.length ≤ 100000) : Calls Tryz.prog 84 #[v] W fun e w' => e = .returned (.bool (xs.all isNum)) ∧ Below W.heap.size W w' := by
  rcases h.2 with ⟨h0, h1⟩ | ⟨g, cap, cur, e1, e2, e3, e4, e5, e6, e7⟩
  · rw [h0, List.length_eq_zero_iff.1 h1]
    exact num_All0 _ _ W
  · rw [e1]
    refine num_AllAt xs g 0 xs.length cap W rfl hl ⟨(Array.getElem?_eq_some_iff.1 e3).1, fun k hk => ?_⟩
    have hx : Bx W g 23 cur := e3
    rw [hx.all.1, Nat.zero_add]
    have hq : (xs.map (Value.float .f32))[k]? = some (.float .f32 (xs.getD k 0)) := by
      rw [List.getElem?_map, List.getElem?_eq_getElem hk, List.getD_eq_getElem?_getD, List.getElem?_eq_getElem hk]; rfl
    rw [← e7, List.getElem?_take] at hq
    split at hq
    · rw [Array.getElem?_toList] at hq; exact hq
    · cases hq

set_option maxRecDepth 100000 in
theorem ref_All0 (a : Option Addr) (c : Nat) (W : World) : Calls Tryz.prog 16 #[.slice a 0 c] W fun e w' => e = .returned (.bool true) ∧ Below W.heap.size W w' := by
  go_enter Tryz.func16, Tryz.ntmps16
  go_wp2_with fail
  go_loopw [7] (fun i wr => i = .int .i64 0 ∧ Below W.heap.size W wr) (fun i _ => 0)
  case atStart => exact ⟨rfl, Below.refl _ _⟩
  case round =>
    obtain ⟨rfl, hbl⟩ := hrel
    go_wp2_with fail
    go_ret
    exact ⟨rfl, hbl⟩
/-- At an own row. -/
theorem ref_AllOwn (xs : List Nat) (v : Value) (B : Nat) (W : World) (h : OwF B W v xs) (hl : xs.length ≤ 100000) : Calls Tryz.prog 16 #[v] W fun e w' => e = .returned (.bool (xs.all isNum)) ∧ Below W.heap.size W w' := by
  rcases h.2 with ⟨h0, h1⟩ | ⟨g, cap, cur, e1, e2, e3, e4, e5, e6, e7⟩
  · rw [h0, List.length_eq_zero_iff.1 h1]
    exact ref_All0 _ _ W
  · rw [e1]
    refine ref_AllAt xs g 0 xs.length cap W rfl hl ⟨(Array.getElem?_eq_some_iff.1 e3).1, fun k hk => ?_⟩
    have hx : Bx W g 23 cur := e3
    rw [hx.all.1, Nat.zero_add]
    have hq : (xs.map (Value.float .f32))[k]? = some (.float .f32 (xs.getD k 0)) := by
      rw [List.getElem?_map, List.getElem?_eq_getElem hk, List.getD_eq_getElem?_getD, List.getElem?_eq_getElem hk]; rfl
    rw [← e7, List.getElem?_take] at hq
    split at hq
    · rw [Array.getElem?_toList] at hq; exact hq
    · cases hq
end

section
open Go.RowKit Go.Lib

/-- Not a power that may be. -/
def badP (x : Nat) : Bool := (FloatKind.f32.format.order x 1031798784 == some .lt) || (FloatKind.f32.format.order x 1098907648 == some .gt)
def neg0 (x : Nat) : Bool := FloatKind.f32.format.order x 0 == some .lt
def zer0 (x : Nat) : Bool := FloatKind.f32.format.order x 0 == some .eq
def whErr (xs : List Nat) : Int := if xs.all isNum = false then 2 else if badP (xs.getD 3 0) || (badP (xs.getD 4 0) || badP (xs.getD 5 0)) then 3 else 0
def lsBad (xs : List Nat) : Bool := neg0 (xs.getD 0 0) || (neg0 (xs.getD 1 0) || (neg0 (xs.getD 2 0) || ((badP (xs.getD 6 0) || (badP (xs.getD 7 0) || badP (xs.getD 8 0))) || (neg0 (xs.getD 9 0) || (FloatKind.f32.format.order (xs.getD 9 0) 1090519040 == some .gt)))))
def lsErr (xs : List Nat) : Int := if xs.all isNum = false then 2 else if lsBad xs then 3 else 0
def risesF (xs : List Nat) : Bool := (List.range (xs.length - 1)).all fun i => FloatKind.f32.format.order (xs.getD i 0) (xs.getD (i + 1) 0) == some .lt
def hasP (c : Cv) : Bool := decide (0 < c.xs.length) || decide (0 < c.ys.length)
def curveErr (c : Cv) : Int :=
  if c.kind ≠ 1 ∧ c.kind ≠ 2 then 1
  else if c.xs.length ≠ c.ys.length ∨ c.xs.length < 2 ∨ 32 < c.xs.length then 2
  else if c.xs.all isNum = false ∨ c.ys.all isNum = false then 2
  else if risesF c.xs then 0 else 8
def cvsErr (l : List Cv) : Int := l.foldl (fun e c => if hasP c = true ∧ e = 0 then curveErr c else e) 0
def ptBad (n : Int) : Bool := decide (n < 0) || decide (50 < n)
def ptsErr (l : List Int) : Int := if l.any ptBad then 3 else 0
def kindErr (g : Gd) : Int :=
  if g.kind = 1 then whErr g.whe else if g.kind = 2 then lsErr g.lst else if g.kind = 3 then cvsErr g.cvs
  else if g.kind = 4 then (if g.mix.all isNum then 0 else 2) else if g.kind = 5 then (if isNum g.piv && isNum g.amt then 0 else 2)
  else if g.kind = 6 then ptsErr g.pts else 1
def cvBad (k : Int) (c : Cv) : Bool := (!decide (k = 3) || !hasP c) && (!decide (c.kind = 0) || hasP c)
def spareB (g : Gd) : Bool :=
  !g.cvs.any (cvBad g.kind) && ((decide (g.kind = 1) || g.whe.all zer0) && ((decide (g.kind = 2) || g.lst.all zer0) && ((decide (g.kind = 4) || g.mix.all zer0) && ((decide (g.kind = 5) || (zer0 g.piv && zer0 g.amt)) && (decide (g.kind = 6) || g.pts.all fun n => decide (n = 0))))))
def gradeErr (g : Gd) : Int := if kindErr g ≠ 0 then kindErr g else if spareB g then 0 else 12

theorem ret_bool' {a b : Bool} (h : a = b) : Ending.returned (Value.bool a) = .returned (.bool b) := by rw [h]
theorem ret_int' {a b : Int} (h : a = b) : Ending.returned (Value.int .i64 a) = .returned (.int .i64 b) := by rw [h]
theorem any_has {α : Type} (p : α → Bool) (xs : List α) (d : α) (k : Nat) (h : k < xs.length) (hp : p (xs.getD k d) = true) : xs.any p = true := by
  rw [List.any_eq_true]
  exact ⟨xs.getD k d, by simp [h], hp⟩
theorem any_takeG {α : Type} (p : α → Bool) (xs : List α) (d : α) (k : Nat) (h : k < xs.length) : (xs.take (k + 1)).any p = ((xs.take k).any p || p (xs.getD k d)) := by
  rw [List.take_succ_eq_append_getElem h, List.any_append]
  simp [h]
set_option maxRecDepth 100000 in
theorem grade_hasPoints (k : Int) (a1 a2 : Option Addr) (n1 n2 c1 c2 : Nat) (W : World) : Calls Tryz.prog 67 #[.agg #[.int .i64 k, .slice a1 n1 c1, .slice a2 n2 c2]] W fun e w' => e = .returned (.bool (decide (0 < n1) || decide (0 < n2))) ∧ Below W.heap.size W w' := by
  by_cases h1 : 0 < n1
  · have e1 : (n1 : Int) > 0 := by omega
    go_enter Tryz.func67, Tryz.ntmps67
    go_wp2_with fail
    go_ret
    exact ⟨by simp [h1], bnew (Below.refl _ _)⟩
  · obtain rfl : n1 = 0 := by omega
    by_cases h2 : 0 < n2
    · have e1 : (n2 : Int) > 0 := by omega
      go_enter Tryz.func67, Tryz.ntmps67
      go_wp2_with fail
      go_ret
      exact ⟨by simp [h2], bnew (Below.refl _ _)⟩
    · obtain rfl : n2 = 0 := by omega
      go_enter Tryz.func67, Tryz.ntmps67
      go_wp2_with fail
      go_ret
      exact ⟨by simp, bnew (Below.refl _ _)⟩
theorem run_index_f3 {D : Array Value} {k x : Nat} (hk : k < 3) (hD : D[k]? = some (.float .f32 x)) (w : World) : (Instr.index 32 (.agg D) (.int .i64 (k : Int))).run Tryz.prog w = .ok (.float .f32 x) w := by
  have h1 : (0 : Int) ≤ (k : Int) ∧ (k : Int) < ((3 : Nat) : Int) := by omega
  simp [go_sem, Instr.index, h1, hD]
  try omega
theorem wpList_index_f3 {ops : Array Oper} {rest : List Oper} {o : Oper} {a : Act} {w : World} {Q : Exit → Act → World → Prop} (hgd : o.guard = none) (y i : Operand) (ho : o.op = .index 32 y i) {D : Array Value} {k x : Nat} (hy : a.eval y = .agg D) (hi : a.eval i = .int .i64 (k : Int)) (hk : k < 3) (hD : D[k]? = some (.float .f32 x))
    (h : wpList Tryz.prog ops Q rest (a.put o.dst (.float .f32 x)) w) : wpList Tryz.prog ops Q (o :: rest) a w :=
  wpList_plain hgd fun _ hK => by
    unfold Oper.wp execOp
    simp only [ho, hy, hi, Sem.run_bind, run_index_f3 hk hD, Result.andThen_ok, Sem.run_pure]
    exact hK _ _ h
theorem size_f3 : (Tryz.prog.info? 32).map (·.size) = some 3 := by kernel_rfl
theorem size_i3 : (Tryz.prog.info? 44).map (·.size) = some 3 := by kernel_rfl
theorem size_mx : (Tryz.prog.info? 43).map (·.size) = some 12 := by kernel_rfl
set_option maxRecDepth 100000 in
set_option maxHeartbeats 2000000 in
theorem grade_powered (D : Array Value) (xs : List Nat) (hl : xs.length = 3) (hs : D.size = 3) (hD : ∀ k, k < 3 → D[k]? = some (.float .f32 (xs.getD k 0))) (W : World) : Calls Tryz.prog 120 #[.agg D] W fun e w' => e = .returned (.bool (!xs.any badP)) ∧ Below W.heap.size W w' := by
  have HD := Lib.hid (And.intro hl (And.intro hs hD))
  clear hl hs hD
  go_enter Tryz.func120, Tryz.ntmps120
  go_wp2_with (refine wpList_load_cells rfl 32 (.tmp 1) rfl W.heap.size 0 rfl D (fun j v hj => by rw [(Bx.new W _ D).all.1, Nat.zero_add]; exact hj) _ Tryz.underlying32 rfl (by rw [HD.out.2.1]; exact size_f3) ?_)
  go_loopw [6] (fun i wr => ∃ k : Nat, k ≤ 3 ∧ i = .int .i64 (k : Int) ∧ (xs.take k).any badP = false ∧ Below W.heap.size W wr) (fun i _ => 3 - (RowKit.intOf i).toNat)
  case atStart => exact ⟨0, by omega, rfl, rfl, bnew (Below.refl _ _)⟩
  case round =>
    obtain ⟨k, hk, rfl, hall, hbl⟩ := hrel
    have HA := Lib.hid hall
    clear hall
    by_cases hlt : k < 3
    · have hd1 : decide ((k : Int) < 3) = true := decide_eq_true (by omega)
      have h1 := any_takeG badP xs 0 k (by rw [HD.out.1]; exact hlt)
      rw [HA.out, Bool.false_or] at h1
      have h2 := any_has badP xs 0 k (by rw [HD.out.1]; exact hlt)
      have hx := HD.out.2.2 k hlt
      generalize xs.getD k 0 = z at *
      have H1 := Lib.hid h1
      have H2 := Lib.hid h2
      have HX := Lib.hid hx
      clear h1 h2 hx
      cases hz1 : (FloatKind.f32.format.order z 1031798784 == some .lt)
      · cases hz2 : (FloatKind.f32.format.order z 1098907648 == some .gt)
        · have HB : Hid (badP z = false) := Lib.hid (by unfold badP; rw [hz1, hz2]; rfl)
          go_wp2_with (refine wpList_index_f3 rfl (.tmp 5) (.tmp 6) rfl rfl rfl hlt HX.out ?_)
          go_roundw
          case rel => exact ⟨k + 1, by omega, by go_num, by rw [H1.out, HB.out], hbl⟩
          case measure => simp [RowKit.intOf]; omega
        · have HB : Hid (badP z = true) := Lib.hid (by unfold badP; rw [hz1, hz2]; rfl)
          go_wp2_with (refine wpList_index_f3 rfl (.tmp 5) (.tmp 6) rfl rfl rfl hlt HX.out ?_)
          go_ret
          exact ⟨ret_bool' (by rw [H2.out HB.out]; rfl), hbl⟩
      · have HB : Hid (badP z = true) := Lib.hid (by unfold badP; rw [hz1]; rfl)
        go_wp2_with (refine wpList_index_f3 rfl (.tmp 5) (.tmp 6) rfl rfl rfl hlt HX.out ?_)
        go_ret
        exact ⟨ret_bool' (by rw [H2.out HB.out]; rfl), hbl⟩
    · obtain rfl : k = 3 := by omega
      have HT : Hid (xs.take 3 = xs) := Lib.hid (by rw [← HD.out.1, List.take_length])
      go_wp2_with fail
      go_ret
      exact ⟨ret_bool' (by have := HA.out; rw [HT.out] at this; rw [this]; rfl), hbl⟩
set_option maxRecDepth 100000 in
set_option maxHeartbeats 2000000 in
theorem grade_checkPoints (D : Array Value) (xs : List Int) (hl : xs.length = 3) (hs : D.size = 3) (hD : ∀ k, k < 3 → D[k]? = some (.int .i64 (xs.getD k 0))) (W : World) : Calls Tryz.prog 85 #[.agg D] W fun e w' => e = .returned (.int .i64 (ptsErr xs)) ∧ Below W.heap.size W w' := by
  have HD := Lib.hid (And.intro hl (And.intro hs hD))
  clear hl hs hD
  go_enter Tryz.func85, Tryz.ntmps85
  go_wp2_with (refine wpList_load_cells rfl 44 (.tmp 1) rfl W.heap.size 0 rfl D (fun j v hj => by rw [(Bx.new W _ D).all.1, Nat.zero_add]; exact hj) _ Tryz.underlying44 rfl (by rw [HD.out.2.1]; exact size_i3) ?_)
  go_loopw [6] (fun i wr => ∃ k : Nat, k ≤ 3 ∧ i = .int .i64 (k : Int) ∧ (xs.take k).any ptBad = false ∧ Below W.heap.size W wr) (fun i _ => 3 - (RowKit.intOf i).toNat)
  case atStart => exact ⟨0, by omega, rfl, rfl, bnew (Below.refl _ _)⟩
  case round =>
    obtain ⟨k, hk, rfl, hall, hbl⟩ := hrel
    have HA := Lib.hid hall
    clear hall
    by_cases hlt : k < 3
    · have hd1 : decide ((k : Int) < 3) = true := decide_eq_true (by omega)
      have h1 := any_takeG ptBad xs 0 k (by rw [HD.out.1]; exact hlt)
      rw [HA.out, Bool.false_or] at h1
      have h2 := any_has ptBad xs 0 k (by rw [HD.out.1]; exact hlt)
      have hx := HD.out.2.2 k hlt
      generalize xs.getD k 0 = z at *
      have H1 := Lib.hid h1
      have H2 := Lib.hid h2
      have HX := Lib.hid hx
      clear h1 h2 hx
      by_cases hz1 : z < 0
      · have HB : Hid (ptBad z = true) := Lib.hid (by unfold ptBad; rw [decide_eq_true hz1]; rfl)
        go_wp2_with (refine wpList_index_pt rfl (.tmp 5) (.tmp 6) rfl rfl rfl hlt HX.out ?_)
        go_ret
        exact ⟨ret_int' (by unfold ptsErr; rw [H2.out HB.out]; rfl), hbl⟩
      · by_cases hz2 : 50 < z
        · have HB : Hid (ptBad z = true) := Lib.hid (by unfold ptBad; rw [decide_eq_true hz2]; simp)
          go_wp2_with (refine wpList_index_pt rfl (.tmp 5) (.tmp 6) rfl rfl rfl hlt HX.out ?_)
          go_ret
          exact ⟨ret_int' (by unfold ptsErr; rw [H2.out HB.out]; rfl), hbl⟩
        · have HB : Hid (ptBad z = false) := Lib.hid (by unfold ptBad; rw [decide_eq_false hz1, decide_eq_false hz2]; rfl)
          go_wp2_with (refine wpList_index_pt rfl (.tmp 5) (.tmp 6) rfl rfl rfl hlt HX.out ?_)
          go_roundw
          case rel => exact ⟨k + 1, by omega, by go_num, by rw [H1.out, HB.out], hbl⟩
          case measure => simp [RowKit.intOf]; omega
    · obtain rfl : k = 3 := by omega
      have HT : Hid (xs.take 3 = xs) := Lib.hid (by rw [← HD.out.1, List.take_length])
      go_wp2_with fail
      go_ret
      exact ⟨ret_int' (by have := HA.out; rw [HT.out] at this; unfold ptsErr; rw [this]; rfl), hbl⟩
set_option maxRecDepth 100000 in
set_option maxHeartbeats 2000000 in
theorem grade_CheckMixer (D : Array Value) (xs : List Nat) (hl : xs.length = 12) (hD : ∀ k, k < 12 → D[k]? = some (.float .f32 (xs.getD k 0))) (W : World) : Calls Tryz.prog 83 #[.agg D] W fun e w' => e = .returned (.int .i64 (if xs.all isNum then 0 else 2)) ∧ Below W.heap.size W w' := by
  have HD := Lib.hid (And.intro hl hD)
  clear hl hD
  obtain ⟨R, hR⟩ : ∃ R : Int, (if xs.all isNum then 0 else 2) = R := ⟨_, rfl⟩
  have HR := Lib.hid hR
  rw [hR]
  clear hR
  go_enter Tryz.func83, Tryz.ntmps83
  go_wp2_with fail
  refine (num_AllAt xs _ 0 12 12 _ HD.out.1 (by omega) ⟨(Bx.new W _ D).lt, fun k hk => by rw [(Bx.new W _ D).all.1, Nat.zero_add]; exact HD.out.2 k (by have := HD.out.1; omega)⟩).mono ?_
  rintro e w1 ⟨rfl, hb1⟩
  have HB : Hid (Below W.heap.size W w1) := Lib.hid (bcall (bnew (Below.refl _ _)) hb1)
  clear hb1
  cases hz : xs.all isNum
  · have := HR.out
    rw [hz] at this
    have H2 := Lib.hid this
    clear this hz
    go_wp2_with fail
    go_ret
    exact ⟨ret_int' H2.out, HB.out⟩
  · have := HR.out
    rw [hz] at this
    have H2 := Lib.hid this
    clear this hz
    go_wp2_with fail
    go_ret
    exact ⟨ret_int' H2.out, HB.out⟩
end
end Go.Proofs.YticekgnmiaidjaaGreatDoor
