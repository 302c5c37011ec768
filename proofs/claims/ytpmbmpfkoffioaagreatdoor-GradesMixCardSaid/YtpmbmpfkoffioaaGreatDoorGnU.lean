/- grade.Between. (printed by gen_gnu.py) -/
import Derived.Test.YtpmbmpfkoffioaaGreatDoorGnV
namespace Go.Proofs.YtpmbmpfkoffioaaGreatDoor
open Go.RowKit Go.Lib

def zeroGr : Array Value := #[.int .i64 0, .float .f32 0, .float .f32 0, .float .f32 0, .float .f32 0, .float .f32 0, .float .f32 0, .float .f32 0, .float .f32 0, .float .f32 0, .float .f32 0, .float .f32 0, .float .f32 0, .float .f32 0, .float .f32 0, .float .f32 0, .float .f32 0, .float .f32 0, .float .f32 0, .float .f32 0, .int .i64 0, .slice none 0 0, .slice none 0 0, .int .i64 0, .slice none 0 0, .slice none 0 0, .int .i64 0, .slice none 0 0, .slice none 0 0, .int .i64 0, .slice none 0 0, .slice none 0 0, .float .f32 0, .float .f32 0, .float .f32 0, .float .f32 0, .float .f32 0, .float .f32 0, .float .f32 0, .float .f32 0, .float .f32 0, .float .f32 0, .float .f32 0, .float .f32 0, .float .f32 0, .float .f32 0, .int .i64 0, .int .i64 0, .int .i64 0]
theorem putsAt_append (Z A B : Array Value) (h : Z.size = A.size + B.size) : putsAt (putsAt Z 0 A.toList) A.size B.toList = A ++ B := by
  apply Array.ext_getElem?
  intro j
  rw [putsAt_get _ _ _ _ (by rw [putsAt_size]; simp; omega), putsAt_get _ _ _ _ (by simp; omega), Array.getElem?_append]
  simp only [Array.length_toList, Nat.zero_le, true_and, Nat.zero_add, Nat.sub_zero, Array.getElem?_toList]
  by_cases h1 : j < A.size
  · rw [if_neg (by omega), if_pos h1, if_pos h1]
  · rw [if_neg h1]
    by_cases h2 : j < A.size + B.size
    · rw [if_pos (by omega)]; simp [h1]
    · rw [if_neg (by omega), Array.getElem?_eq_none (by omega)]
      simp [h1]; omega
theorem fold_at (Z C : Array Value) (o : Nat) : Array.foldl (fun (cs : Array Value) (x : Value × Nat) => cs.setIfInBounds (o + x.snd) x.fst) Z (C.zipIdx) 0 C.size = putsAt Z o C.toList := by
  have h1 : C.size = C.zipIdx.size := by simp
  have key : ∀ (l : List Value) (Z : Array Value) (k : Nat), (l.zipIdx k).foldl (fun cs x => cs.setIfInBounds (o + x.2) x.1) Z = putsAt Z (o + k) l := by
    intro l
    induction l with
    | nil => intro Z k; rfl
    | cons v l ih => intro Z k; rw [List.zipIdx_cons, List.foldl_cons, ih]; rfl
  rw [h1, ← Array.foldl_toList, Array.toList_zipIdx, key]
  rfl
theorem run_build2 {A B : Array Value} (ha : A.size = 49) (hb : B.size = 49) (w : World) : (Instr.build 46 #[(0, .agg A), (1, .agg B)]).run Tryz.prog w = .ok (.agg (A ++ B)) w := by
  have hf0 := fun Z => fold_at Z A 0
  have hf1 := fun Z => fold_at Z B 49
  rw [ha] at hf0
  rw [hb] at hf1
  simp only [Nat.zero_add] at hf0
  have hz : (Tryz.zeroCells46).size = 98 := by kernel_rfl
  have hp := putsAt_append Tryz.zeroCells46 A B (by rw [hz, ha, hb])
  rw [ha] at hp
  simp [go_sem, ha, hb, hf0, hf1]
  rw [if_neg (by rw [putsAt_size, hz]; omega), hp]
  rfl
theorem wpList_build2 {ops : Array Oper} {rest : List Oper} {o : Oper} {a : Act} {w : World} {Q : Exit → Act → World → Prop} (hgd : o.guard = none) (x y : Operand) (ho : o.op = .build 46 #[(0, x), (1, y)]) {A B : Array Value} (hx : a.eval x = .agg A) (hy : a.eval y = .agg B) (ha : A.size = 49) (hb : B.size = 49)
    (h : wpList Tryz.prog ops Q rest (a.put o.dst (.agg (A ++ B))) w) : wpList Tryz.prog ops Q (o :: rest) a w :=
  wpList_plain hgd fun _ hK => by
    unfold Oper.wp execOp
    simp only [ho, List.map_toArray, List.map_cons, List.map_nil, hx, hy, Sem.run_bind, run_build2 ha hb, Result.andThen_ok, Sem.run_pure]
    exact hK _ _ h
theorem run_index2 {A B D : Array Value} {k : Nat} (hk : k < 2) (ha : A.size = 49) (hb : B.size = 49) (hD : D = if k = 0 then A else B) (w : World) : (Instr.index 46 (.agg (A ++ B)) (.int .i64 (k : Int))).run Tryz.prog w = .ok (.agg D) w := by
  have h1 : (0 : Int) ≤ (k : Int) ∧ (k : Int) < ((2 : Nat) : Int) := by omega
  have he : (A ++ B).extract (k * 49) (k * 49 + 49) = D := by
    subst hD
    rcases (by omega : k = 0 ∨ k = 1) with rfl | rfl
    · rw [if_pos rfl]
      apply Array.ext_getElem?
      intro j
      rw [Array.getElem?_extract, Array.getElem?_append]
      by_cases hj : j < 49
      · rw [if_pos (by simp; omega), if_pos (by omega)]; simp
      · rw [if_neg (by omega), Array.getElem?_eq_none (by omega)]
    · rw [if_neg (by omega)]
      apply Array.ext_getElem?
      intro j
      rw [Array.getElem?_extract, Array.getElem?_append]
      by_cases hj : j < 49
      · rw [if_pos (by simp; omega), if_neg (by omega)]; congr 1; omega
      · rw [if_neg (by omega), Array.getElem?_eq_none (by omega)]
  simp at he
  simp [go_sem, Instr.index, h1]
  rw [if_pos hk, he]
theorem wpList_index2 {ops : Array Oper} {rest : List Oper} {o : Oper} {a : Act} {w : World} {Q : Exit → Act → World → Prop} (hgd : o.guard = none) (y i : Operand) (ho : o.op = .index 46 y i) {A B D : Array Value} {k : Nat} (hy : a.eval y = .agg (A ++ B)) (hi : a.eval i = .int .i64 (k : Int)) (hk : k < 2) (ha : A.size = 49) (hb : B.size = 49) (hD : D = if k = 0 then A else B)
    (h : wpList Tryz.prog ops Q rest (a.put o.dst (.agg D)) w) : wpList Tryz.prog ops Q (o :: rest) a w :=
  wpList_plain hgd fun _ hK => by
    unfold Oper.wp execOp
    simp only [ho, hy, hi, Sem.run_bind, run_index2 hk ha hb hD, Result.andThen_ok, Sem.run_pure]
    exact hK _ _ h
/-- A grade that lies in a cell, and a number in a slot. -/
theorem results_two {fn : Func} {p q : Tmp} (h : fn.results = #[.cell p 37, .tmp q]) (tmps : Array Value) (w : World) (g : Nat) (cs : Array Value) (v : Value) (hp : tmps.getD p undef = .pointer (some ⟨g, 0, none⟩)) (hq : tmps.getD q undef = v) (hg : Bx w g 37 cs) (hs : cs.size = 49) :
    (results fn tmps).run Tryz.prog w = .ok (.tuple #[.agg cs, v]) w := by
  have hp' : tmps[p]?.getD undef = .pointer (some ⟨g, 0, none⟩) := by simpa using hp
  have hq' : tmps[q]?.getD undef = v := by simpa using hq
  simp [results, h, hp', hq', asAddr, run_loadVar_row w g _ 37 cs (0, 0) _ hg Tryz.underlying37 rfl (by rw [hs]; exact grade_size)]
theorem zeroGr_ok : zeroGr.size = 49 ∧ zeroGr.all (·.oneCell') = true ∧ zeroGr[0]? = some (.int .i64 0) := by
  refine ⟨rfl, ?_, rfl⟩
  unfold zeroGr
  simp [Value.oneCell']
/-- What both Betweens answer. -/
def BetIs (a b : Gd) (t : Nat) (W : World) (e : Ending) (w' : World) : Prop :=
  ∃ R, e = .returned (.tuple #[.agg R, .int .i64 (betErr a b t)]) ∧ R.size = 49 ∧ R.all (·.oneCell') = true ∧ (betErr a b t = 0 → GdAt w' R (mixG a b t)) ∧ (betErr a b t ≠ 0 → R[0]? = some (.int .i64 0)) ∧ Below W.heap.size W w'
theorem BetIs.err {a b : Gd} {t : Nat} {W w' : World} {E : Int} (hE : betErr a b t = E) (h0 : E ≠ 0) (hb : Below W.heap.size W w') : BetIs a b t W (.returned (.tuple #[.agg zeroGr, .int .i64 E])) w' :=
  ⟨zeroGr, by rw [hE], zeroGr_ok.1, zeroGr_ok.2.1, fun h => absurd (hE.symm.trans h) h0, fun _ => zeroGr_ok.2.2, hb⟩
set_option maxRecDepth 100000 in
set_option maxHeartbeats 64000000 in
theorem grade_Between (Ca Cb : Array Value) (a b : Gd) (t : Nat) (W : World) (hA : GdAt W Ca a) (hB : GdAt W Cb b) : Calls Tryz.prog 5 #[.agg Ca, .agg Cb, .float .f32 t] W fun e w' => BetIs a b t W e w' := by
  have HA := Lib.hid hA
  have HB := Lib.hid hB
  clear hA hB
  go_enter Tryz.func5, Tryz.ntmps5
  go_upto_region 1 with fail
  refine name_world ?_
  intro W1 hW1
  have hs0 : (W.alloc (.cells Ca 37)).heap.size = W.heap.size + 1 := Array.size_push _
  have hs1 : ((W.alloc (.cells Ca 37)).alloc (.cells Cb 37)).heap.size = W.heap.size + 1 + 1 := (Array.size_push _).trans (by rw [hs0])
  have x3 : Bx W1 W.heap.size 37 Ca := by rw [hW1]; exact ((Bx.new W 37 Ca).keep (bnew (ob := .cells Cb 37) (Below.refl _ _))).keep (bnew (Below.refl _ _))
  have x4 : Bx W1 (W.alloc (.cells Ca 37)).heap.size 37 Cb := by rw [hW1]; exact (Bx.new (W.alloc (.cells Ca 37)) 37 Cb).keep (bnew (Below.refl _ _))
  have x6 : Bx W1 ((W.alloc (.cells Ca 37)).alloc (.cells Cb 37)).heap.size 37 zeroGr := by rw [hW1]; exact Bx.new _ _ _
  have HW1 : Hid (Below W.heap.size W W1) := Lib.hid (by rw [hW1]; exact bnew (bnew (ob := .cells Cb 37) (bnew (ob := .cells Ca 37) (Below.refl _ _))))
  rw [hs0] at x4
  rw [hs1] at x6
  obtain ⟨p3, hp3⟩ : ∃ p, W.heap.size = p := ⟨_, rfl⟩
  obtain ⟨p4, hp4⟩ : ∃ p, p3 + 1 = p := ⟨_, rfl⟩
  obtain ⟨p6, hp6⟩ : ∃ p, p4 + 1 = p := ⟨_, rfl⟩
  rw [hp3] at x3 x4 x6
  rw [hp4] at x4 x6
  rw [hp6] at x6
  try rw [hp3]
  try rw [hp4]
  try rw [hp6]
  have X3 := Lib.hid x3
  have X4 := Lib.hid x4
  have X6 := Lib.hid x6
  have HP := Lib.hid (And.intro hp3 (And.intro hp4 hp6))
  clear hW1 hs0 hs1 hp3 hp4 hp6 x3 x4 x6
  have HL3 : Hid (∀ w, Below W1.heap.size W1 w → ∀ (j : Nat) (v : Value), Ca[j]? = some v → w.cell? ⟨p3, 0 + j, none⟩ = some v) := Lib.hid (fun w h j v hj => by rw [(X3.out.keep h).all.1, Nat.zero_add]; exact hj)
  have HL4 : Hid (∀ w, Below W1.heap.size W1 w → ∀ (j : Nat) (v : Value), Cb[j]? = some v → w.cell? ⟨p4, 0 + j, none⟩ = some v) := Lib.hid (fun w h j v hj => by rw [(X4.out.keep h).all.1, Nat.zero_add]; exact hj)
  have SA : Hid ((Tryz.prog.info? 37).map (·.size) = some Ca.size) := Lib.hid (by rw [HA.out.size]; exact grade_size)
  have SB : Hid ((Tryz.prog.info? 37).map (·.size) = some Cb.size) := Lib.hid (by rw [HB.out.size]; exact grade_size)
  go_wp2_with (first | refine wpList_load_cells rfl 37 (.tmp 3) rfl p3 0 rfl Ca (HL3.out _ (Below.refl _ _)) _ Tryz.underlying37 rfl SA.out ?_ | refine wpList_load_cells rfl 37 (.tmp 4) rfl p4 0 rfl Cb (HL4.out _ (Below.refl _ _)) _ Tryz.underlying37 rfl SB.out ?_ | refine wpList_build2 rfl (.tmp 21) (.tmp 22) rfl rfl rfl HA.out.size HB.out.size ?_)
  go_loopw [24] (fun i wr => ∃ k : Nat, k ≤ 2 ∧ i = .int .i64 (k : Int) ∧ Hid ((1 ≤ k → gradeErr a = 0) ∧ (2 ≤ k → gradeErr b = 0)) ∧ Hid (Below W1.heap.size W1 wr)) (fun i _ => 2 - (RowKit.intOf i).toNat)
  case atStart => exact ⟨0, by omega, rfl, Lib.hid ⟨fun h => (by omega), fun h => (by omega)⟩, Lib.hid (Below.refl _ _)⟩
  case round =>
    obtain ⟨k, hk, rfl, HE, HBr⟩ := hrel
    by_cases hlt : k < 2
    · obtain ⟨D, hD⟩ : ∃ D, D = if k = 0 then Ca else Cb := ⟨_, rfl⟩
      obtain ⟨g, hg⟩ : ∃ g, g = if k = 0 then a else b := ⟨_, rfl⟩
      have hGD : GdAt W D g := by
        rcases (by omega : k = 0 ∨ k = 1) with rfl | rfl
        · rw [if_pos rfl] at hD hg; subst hD hg; exact HA.out
        · rw [if_neg (by omega)] at hD hg; subst hD hg; exact HB.out
      have HGD := Lib.hid hGD
      have HDD := Lib.hid hD
      have HGG := Lib.hid hg
      have hst := fun w => grade_store w HGD.out.size HGD.out.one
      have hcs := HGD.out.size
      have hd1 : decide ((k : Int) < 2) = true := decide_eq_true (by omega)
      clear hGD hD hg
      go_upto_region 3 with fail
      go_upto_region 4 with (refine wpList_index2 rfl (.tmp 23) (.tmp 24) rfl rfl rfl hlt HA.out.size HB.out.size HDD.out ?_)
      clear hst hcs
      refine name_world ?_
      intro W2 hW2
      have X9 : Hid (Bx W2 wr.heap.size 37 D) := Lib.hid (by rw [hW2]; exact Bx.new wr _ D)
      have HB2 : Hid (Below W1.heap.size W1 W2) := Lib.hid (by rw [hW2]; exact bcall HBr.out (bnew (ob := .cells D 37) (Below.refl _ _)))
      have HN6 : Hid (wr.heap.size ≠ p6) := Lib.hid (Nat.ne_of_gt (X6.out.keep HBr.out).lt)
      obtain ⟨p9, hp9⟩ : ∃ p, wr.heap.size = p := ⟨_, rfl⟩
      rw [hp9] at X9 HN6 ⊢
      clear hW2 hp9
      have HW2 : Hid (Below W.heap.size W W2) := Lib.hid (HW1.out.trans (HB2.out.mono HW1.out.size))
      have SD : Hid ((Tryz.prog.info? 37).map (·.size) = some D.size) := Lib.hid (by rw [HGD.out.size]; exact grade_size)
      have HL9 : Hid (∀ (j : Nat) (v : Value), D[j]? = some v → W2.cell? ⟨p9, 0 + j, none⟩ = some v) := Lib.hid (fun j v hj => by rw [X9.out.all.1, Nat.zero_add]; exact hj)
      go_wp2_with (refine wpList_load_cells rfl 37 (.tmp 9) rfl p9 0 rfl D HL9.out _ Tryz.underlying37 rfl SD.out ?_)
      refine (grade_CheckGrade D g W2 (HGD.out.keep HW2.out)).mono ?_
      rintro e w7 ⟨rfl, hb7⟩
      have HB7 : Hid (Below W1.heap.size W1 w7) := Lib.hid (bcall HB2.out hb7)
      have HW7 : Hid (Below W.heap.size W w7) := Lib.hid (HW1.out.trans (HB7.out.mono HW1.out.size))
      obtain ⟨E, hE⟩ : ∃ E, gradeErr g = E := ⟨_, rfl⟩
      rw [hE]
      have HEE := Lib.hid hE
      clear hE hb7 hd1
      by_cases e0 : E = 0
      · subst e0
        have hk2 : k < 2 := hlt
        go_wp2_with fail
        go_roundw
        case rel => exact ⟨k + 1, by omega, by go_num, Lib.hid ⟨fun _ => (by
          rcases (by omega : k = 0 ∨ k = 1) with rfl | rfl
          · have := HGG.out; rw [if_pos rfl] at this; rw [← this]; exact HEE.out
          · exact HE.out.1 (by omega)), fun h => (by
          obtain rfl : k = 1 := by omega
          have := HGG.out; rw [if_neg (by omega)] at this; rw [← this]; exact HEE.out)⟩, HB7⟩
        case measure => simp [RowKit.intOf]; omega
      · have HBE : Hid (betErr a b t = E) := Lib.hid (by
          unfold betErr
          rcases (by omega : k = 0 ∨ k = 1) with rfl | rfl
          · have := HGG.out; rw [if_pos rfl] at this; subst this
            rw [if_pos (by rw [HEE.out]; exact e0)]; exact HEE.out
          · have := HGG.out; rw [if_neg (by omega)] at this; subst this
            rw [if_neg (by rw [HE.out.1 (by omega)]; decide), if_pos (by rw [HEE.out]; exact e0)]; exact HEE.out)
        have HX6 := Lib.hid (X6.out.keep HB7.out)
        go_wp2_with (refine wpList_store_rowG rfl (.tmp 6) (.tmp 31) rfl p6 zeroGr rfl rfl HX6.out zeroGr_ok.1 zeroGr_ok.1 zeroGr_ok.2.1 ?_)
        have XZ : Bx ((w7 : World).setRow p6 zeroGr) p6 37 zeroGr := setRow_heap _ p6 _ zeroGr 37 (0, 0) HX6.out
        refine bodyPost_ret (v := .tuple #[.agg zeroGr, .int .i64 E]) (results_two (p := 6) (q := 7) (by kernel_rfl) _ _ p6 zeroGr _ rfl rfl XZ zeroGr_ok.1) rfl (BetIs.err (HBE.out) (by exact e0) (below_setRow (HW7.out) (by have := HP.out; omega) zeroGr))
    · obtain rfl : k = 2 := by omega
      have HR : Hid (gradeErr a = 0 ∧ gradeErr b = 0) := Lib.hid ⟨HE.out.1 (by omega), HE.out.2 (by omega)⟩
      clear HE
      rw [show ((2 : Nat) : Int) = 2 from rfl]
      obtain ⟨ka, hka⟩ : ∃ k, a.kind = k := ⟨_, rfl⟩
      obtain ⟨kb, hkb⟩ : ∃ k, b.kind = k := ⟨_, rfl⟩
      have q30 : wr.cell? ⟨p3, 0, none⟩ = some (.int .i64 ka) := by rw [(X3.out.keep HBr.out).all.1, HA.out.kind, hka]
      have q40 : wr.cell? ⟨p4, 0, none⟩ = some (.int .i64 kb) := by rw [(X4.out.keep HBr.out).all.1, HB.out.kind, hkb]
      obtain ⟨cf, hcf⟩ : ∃ f : Nat → Bool, f = fun i => !((cvAt a i).kind == (cvAt b i).kind) || !((cvAt a i).xs.length == (cvAt b i).xs.length) := ⟨_, rfl⟩
      have HCF : Hid (confB a b = (!(ka == kb) || (List.range 4).any cf)) := Lib.hid (by unfold confB; rw [hka, hkb, hcf])
      have HCI : Hid (∀ i, cf i = (!((cvAt a i).kind == (cvAt b i).kind) || !((cvAt a i).xs.length == (cvAt b i).xs.length))) := Lib.hid (fun i => by rw [hcf])
      clear hka hkb hcf hk hlt
      go_wp2_with fail
      clear q30 q40
      go_loopw [11, 39] (fun s11 i wr2 => ∃ (j : Nat) (cb : Bool), j ≤ 4 ∧ i = .int .i64 (j : Int) ∧ s11 = .bool cb ∧ Hid ((!(ka == kb) || (List.range j).any cf) = cb) ∧ Hid (Below W1.heap.size W1 wr2)) (fun _ i _ => 4 - (RowKit.intOf i).toNat)
      case atStart => exact ⟨0, _, by omega, rfl, rfl, Lib.hid (by rw [show (List.range 0).any cf = false from rfl, Bool.or_false]; rfl), HBr⟩
      case round =>
        obtain ⟨j, cb, hj, rfl, rfl, HS, HBj⟩ := hrel
        by_cases hlj : j < 4
        · obtain ⟨c, hc⟩ : ∃ c, a.cvs[j]? = some c := ⟨_, List.getElem?_eq_getElem (by have := HA.out.cvs.1; omega)⟩
          obtain ⟨d, hd⟩ : ∃ d, b.cvs[j]? = some d := ⟨_, List.getElem?_eq_getElem (by have := HB.out.cvs.1; omega)⟩
          obtain ⟨a0, ⟨vx, a1, a2⟩, _⟩ := HA.out.cvs.2 j c hc
          obtain ⟨b0, ⟨vu, b1, b2⟩, _⟩ := HB.out.cvs.2 j d hd
          obtain ⟨xa, xc, rfl⟩ := a2.sl
          obtain ⟨ya, yc, rfl⟩ := b2.sl
          have HST : Hid ((!(ka == kb) || (List.range (j + 1)).any cf) = (cb || (!(c.kind == d.kind) || !(c.xs.length == d.xs.length)))) := Lib.hid (by
            have e1 : cvAt a j = c := by unfold cvAt; rw [List.getD_eq_getElem?_getD, hc]; rfl
            have e2 : cvAt b j = d := by unfold cvAt; rw [List.getD_eq_getElem?_getD, hd]; rfl
            rw [List.range_succ, List.any_append, ← Bool.or_assoc, HS.out]
            simp only [List.any_cons, List.any_nil, Bool.or_false]
            rw [HCI.out j, e1, e2])
          have r0 : wr.cell? ⟨p3, 20 + j * 3, none⟩ = some (.int .i64 c.kind) := by rw [(X3.out.keep HBj.out).all.1, ← a0]; congr 1; omega
          have r1 : wr.cell? ⟨p3, 20 + j * 3 + 1, none⟩ = some (.slice xa c.xs.length xc) := by rw [(X3.out.keep HBj.out).all.1, ← a1]; congr 1; omega
          have r2 : wr.cell? ⟨p4, 20 + j * 3, none⟩ = some (.int .i64 d.kind) := by rw [(X4.out.keep HBj.out).all.1, ← b0]; congr 1; omega
          have r3 : wr.cell? ⟨p4, 20 + j * 3 + 1, none⟩ = some (.slice ya d.xs.length yc) := by rw [(X4.out.keep HBj.out).all.1, ← b1]; congr 1; omega
          obtain ⟨ck, hck⟩ : ∃ n, c.kind = n := ⟨_, rfl⟩
          obtain ⟨dk, hdk⟩ : ∃ n, d.kind = n := ⟨_, rfl⟩
          obtain ⟨nx, hnx⟩ : ∃ n, c.xs.length = n := ⟨_, rfl⟩
          obtain ⟨ny, hny⟩ : ∃ n, d.xs.length = n := ⟨_, rfl⟩
          rw [hck] at r0
          rw [hdk] at r2
          rw [hnx] at r1
          rw [hny] at r3
          rw [hck, hdk, hnx, hny] at HST
          have z0 : (0 : Int) ≤ (j : Int) := by omega
          have z1 : (j : Int) < 4 := by omega
          have hd1 : decide ((j : Int) < 4) = true := decide_eq_true (by omega)
          clear hc hd a0 a1 a2 b0 b1 b2 hck hdk hnx hny
          cases cb
          · by_cases h1 : ck = dk
            · subst h1
              by_cases h2 : nx = ny
              · subst h2
                go_wp2_with fail
                go_quiet (fail)
                go_wp2_with fail
                go_roundw
                case rel => exact ⟨j + 1, false, by omega, by go_num, rfl, Lib.hid (by rw [HST.out]; simp), Lib.hid (below_drewN HBj.out _)⟩
                case measure => simp [RowKit.intOf]; omega
              · have h2i : ¬ (nx : Int) = (ny : Int) := by omega
                have h2b : ((nx : Int) != (ny : Int)) = true := by simpa using h2i
                go_wp2_with fail
                go_quiet (fail)
                go_wp2_with fail
                go_roundw
                case rel => exact ⟨j + 1, true, by omega, by go_num, rfl, Lib.hid (by rw [HST.out]; simp [h2]), Lib.hid (below_drewN HBj.out _)⟩
                case measure => simp [RowKit.intOf]; omega
            · have h1b : (ck != dk) = true := by simpa using h1
              go_wp2_with fail
              go_quiet (fail)
              go_wp2_with fail
              go_roundw
              case rel => exact ⟨j + 1, true, by omega, by go_num, rfl, Lib.hid (by rw [HST.out]; simp [h1]), Lib.hid (below_drewN HBj.out _)⟩
              case measure => simp [RowKit.intOf]; omega
          · clear r0 r1 r2 r3
            go_wp2_with fail
            go_quiet (fail)
            go_wp2_with fail
            go_roundw
            case rel => exact ⟨j + 1, true, by omega, by go_num, rfl, Lib.hid (by rw [HST.out]; rfl), Lib.hid (below_drewN HBj.out _)⟩
            case measure => simp [RowKit.intOf]; omega
        · obtain rfl : j = 4 := by omega
          have HCB : Hid (confB a b = cb) := Lib.hid (HCF.out.trans HS.out)
          rw [show ((4 : Nat) : Int) = 4 from rfl]
          clear HS HCF
          cases cb
          · go_wp2_with fail
            refine (num_IsNumber t wr).mono ?_
            rintro e w2 ⟨rfl, rfl⟩
            cases hnt : isNum t
            · have HBE : Hid (betErr a b t = 2) := Lib.hid (by unfold betErr; rw [if_neg (by rw [HR.out.1]; decide), if_neg (by rw [HR.out.2]; decide), if_neg (by rw [HCB.out]; decide), if_pos hnt])
              simp only [Bool.not_false]
              have HX6 := Lib.hid (X6.out.keep HBj.out)
              go_wp2_with (refine wpList_store_rowG rfl (.tmp 6) (.tmp 79) rfl p6 zeroGr rfl rfl HX6.out zeroGr_ok.1 zeroGr_ok.1 zeroGr_ok.2.1 ?_)
              have XZ : Bx ((wr : World).setRow p6 zeroGr) p6 37 zeroGr := setRow_heap _ p6 _ zeroGr 37 (0, 0) HX6.out
              refine bodyPost_ret (v := .tuple #[.agg zeroGr, .int .i64 2]) (results_two (p := 6) (q := 7) (by kernel_rfl) _ _ p6 zeroGr _ rfl rfl XZ zeroGr_ok.1) rfl (BetIs.err (HBE.out) (by decide) (below_setRow (HW1.out.trans (HBj.out.mono HW1.out.size)) (by have := HP.out; omega) zeroGr))
            · have HNT := Lib.hid hnt
              simp only [Bool.not_true]
              clear hnt
              cases ht1 : (FloatKind.f32.format.order t 0 == some .lt)
              · cases ht2 : (FloatKind.f32.format.order t 1065353216 == some .gt)
                · have HB5 : Hid (betErr a b t = gradeErr (mixG a b t)) := Lib.hid (by unfold betErr; rw [if_neg (by rw [HR.out.1]; decide), if_neg (by rw [HR.out.2]; decide), if_neg (by rw [HCB.out]; decide), if_neg (by rw [HNT.out]; decide), if_neg (by unfold outT; rw [ht1, ht2]; decide)])
                  have HAR := Lib.hid (right_of HR.out.1)
                  have HBR := Lib.hid (right_of HR.out.2)
                  have HP2 : Hid (Pair2 a b) := Lib.hid ⟨⟨HA.out.whe.1, HB.out.whe.1⟩, ⟨HA.out.lst.1, HB.out.lst.1⟩, ⟨HA.out.mix.1, HB.out.mix.1⟩, ⟨HA.out.pts.1, HB.out.pts.1⟩, ⟨HA.out.cvs.1, HB.out.cvs.1⟩, HAR.out, HBR.out, HCB.out⟩
                  obtain ⟨wq, hwq⟩ : ∃ wq, wr = wq := ⟨_, rfl⟩
                  rw [hwq] at HBj ⊢
                  clear hlj hj hwq
                  go_wp2_with (refine wpList_load_cells rfl 37 (.tmp 3) rfl p3 0 rfl Ca (HL3.out _ (HBj.out)) _ Tryz.underlying37 rfl SA.out ?_)
                  refine (grade_cloned Ca a wq (HA.out.keep (HW1.out.trans ((HBj.out).mono HW1.out.size))) (fun c hc => by have := (HAR.out.cvs c hc); omega)).mono ?_
                  rintro e w13 ⟨C13, rfl, hg13, hc13, hb13⟩
                  have hst := fun w => grade_store w hg13.size hg13.one
                  have hcs := hg13.size
                  have Q13 := Lib.hid (And.intro hg13 (And.intro hc13 hb13))
                  clear hg13 hc13 hb13
                  go_upto_region 21 with fail
                  clear hst hcs
                  refine name_world ?_
                  intro V13 hV13
                  have Y13 : Hid (Bx V13 w13.heap.size 37 C13) := Lib.hid (by rw [hV13]; exact Bx.new w13 _ C13)
                  have Hb13 : Hid (Below w13.heap.size w13 V13) := Lib.hid (by rw [hV13]; exact bnew (ob := .cells C13 37) (Below.refl _ _))
                  obtain ⟨p13, hp13⟩ : ∃ p, w13.heap.size = p := ⟨_, rfl⟩
                  rw [hp13] at Y13 ⊢
                  have HPn13 := Lib.hid hp13
                  clear hV13 hp13
                  
                  clear ht1 ht2
                  have HBV : Hid (Below W1.heap.size W1 V13) := Lib.hid (bcall (bcall HBj.out Q13.out.2.2) Hb13.out)
                  go_wp2_with (refine wpList_load_cells rfl 37 (.tmp 4) rfl p4 0 rfl Cb (HL4.out _ (HBV.out)) _ Tryz.underlying37 rfl SB.out ?_)
                  refine (grade_cloned Cb b V13 (HB.out.keep (HW1.out.trans ((HBV.out).mono HW1.out.size))) (fun c hc => by have := (HBR.out.cvs c hc); omega)).mono ?_
                  rintro e w14 ⟨C14, rfl, hg14, hc14, hb14⟩
                  have hst := fun w => grade_store w hg14.size hg14.one
                  have hcs := hg14.size
                  have Q14 := Lib.hid (And.intro hg14 (And.intro hc14 hb14))
                  clear hg14 hc14 hb14
                  go_upto_region 22 with fail
                  clear hst hcs
                  refine name_world ?_
                  intro V14 hV14
                  have Y14 : Hid (Bx V14 w14.heap.size 37 C14) := Lib.hid (by rw [hV14]; exact Bx.new w14 _ C14)
                  have Hb14 : Hid (Below w14.heap.size w14 V14) := Lib.hid (by rw [hV14]; exact bnew (ob := .cells C14 37) (Below.refl _ _))
                  obtain ⟨p14, hp14⟩ : ∃ p, w14.heap.size = p := ⟨_, rfl⟩
                  rw [hp14] at Y14 ⊢
                  have HPn14 := Lib.hid hp14
                  clear hV14 hp14
                  
                  have HBX : Hid (Below W1.heap.size W1 V14) := Lib.hid (bcall (bcall HBV.out Q14.out.2.2) Hb14.out)
                  have HL : Hid (Below V13.heap.size V13 V14) := Lib.hid (bcall Q14.out.2.2 Hb14.out)
                  have hcl : ∀ g : Gd, g.cvs.length = 4 → Right g → ∀ q, (cvV g q).length ≤ 1000 := fun g h4 hR q => by
                    unfold cvV
                    by_cases hq : q / 2 < 4
                    · have hm : g.cvs.getD (q / 2) ⟨0, [], []⟩ ∈ g.cvs := by rw [List.getD_eq_getElem?_getD, List.getElem?_eq_getElem (by omega)]; exact List.getElem_mem _
                      have := hR.cvs _ hm
                      split <;> omega
                    · rw [List.getD_eq_getElem?_getD, List.getElem?_eq_none (by omega)]
                      split <;> simp
                  have GA : Hid (CS wq.heap.size a 8 C13 V14 ∧ GdAt V14 C13 a ∧ Bx V14 p13 37 C13) := Lib.hid ⟨(Q13.out.2.1.keep Hb13.out).keep HL.out, (Q13.out.1.keep Hb13.out).keep HL.out, Y13.out.keep HL.out⟩
                  have GB : Hid (CS V13.heap.size b 8 C14 V14 ∧ GdAt V14 C14 b ∧ Bx V14 p14 37 C14) := Lib.hid ⟨Q14.out.2.1.keep Hb14.out, Q14.out.1.keep Hb14.out, Y14.out⟩
                  go_wp2_with fail
                  refine (grade_singles p14 C14 b V14 GB.out.2.2 GB.out.2.1 (hcl b HB.out.cvs.1 HBR.out)).mono ?_
                  rintro e w15 ⟨v15, rfl, ho15, hb15⟩
                  have K15 := Lib.hid (And.intro ho15 hb15)
                  clear ho15 hb15
                  go_wp2_with fail
                  refine (grade_singles p13 C13 a w15 (GA.out.2.2.keep K15.out.2) (GA.out.2.1.keep K15.out.2) (hcl a HA.out.cvs.1 HAR.out)).mono ?_
                  rintro e w16 ⟨v16, rfl, ho16, hb16⟩
                  have K16 := Lib.hid (And.intro ho16 hb16)
                  clear ho16 hb16 hcl
                  have H46 : Hid (Below V14.heap.size V14 w16) := Lib.hid (bcall K15.out.2 K16.out.2)
                  have GA6 : Hid (CS wq.heap.size a 8 C13 w16 ∧ GdAt w16 C13 a ∧ Bx w16 p13 37 C13) := Lib.hid ⟨GA.out.1.keep H46.out, GA.out.2.1.keep H46.out, GA.out.2.2.keep H46.out⟩
                  have GB6 : Hid (CS V13.heap.size b 8 C14 w16 ∧ GdAt w16 C14 b ∧ Bx w16 p14 37 C14) := Lib.hid ⟨GB.out.1.keep H46.out, GB.out.2.1.keep H46.out, GB.out.2.2.keep H46.out⟩
                  have RA : Hid (Rdz w16 (ptrsG p13 C13 a) (valsG a)) := Lib.hid (GA6.out.1.rdz GA6.out.2.2 GA6.out.2.1)
                  have RB : Hid (Rdz w16 (ptrsG p14 C14 b) (valsG b)) := Lib.hid (GB6.out.1.rdz GB6.out.2.2 GB6.out.2.1)
                  have hvl : (valsG a).length = (valsG b).length := by
                    have h := HP2.out.alike
                    have hf : ((List.range 8).flatMap (cvV a)).length = ((List.range 8).flatMap (cvV b)).length := by
                      rw [show (List.range 8) = [0, 1, 2, 3, 4, 5, 6, 7] from rfl]
                      simp only [List.flatMap_cons, List.flatMap_nil, List.length_append, h.len 0 (by omega), h.len 1 (by omega), h.len 2 (by omega), h.len 3 (by omega), h.len 4 (by omega), h.len 5 (by omega), h.len 6 (by omega), h.len 7 (by omega)]
                    unfold valsG
                    simp only [List.length_append, List.length_take, h.whe.1, h.whe.2, h.lst.1, h.lst.2, h.mix.1, h.mix.2, hf, List.length_cons, List.length_nil]
                  obtain ⟨N, hN⟩ : ∃ N, (ptrsG p13 C13 a).length = N := ⟨_, rfl⟩
                  have hNb : (ptrsG p14 C14 b).length = N := by rw [RB.out.1, ← hvl, ← RA.out.1, hN]
                  have hN0 : 0 < N := by rw [← hN]; unfold ptrsG; simp only [List.length_append, List.length_cons, List.length_nil]; omega
                  have own : ∀ (B : Nat) (w : World) (v : Value) (L : List Addr), OwnPt B w v L → 0 < L.length → ∃ g c cur, v = .slice (some ⟨g, 0, none⟩) L.length c ∧ Bx w g 53 cur ∧ ∀ i ad, L[i]? = some ad → cur[i]? = some (ptrV ad) := fun B w v L h h0 => by
                    rcases h.2 with ⟨_, h1⟩ | ⟨g, cap, cur, e1, _, e3, _, _, _, e7⟩
                    · omega
                    · refine ⟨g, cap, cur, e1, e3, fun i ad hi => ?_⟩
                      have hl := (List.getElem?_eq_some_iff.1 hi).1
                      have : (L.map ptrV)[i]? = some (ptrV ad) := by rw [List.getElem?_map, hi]; rfl
                      rw [← e7, List.getElem?_take, if_pos (by omega), Array.getElem?_toList] at this
                      exact this
                  obtain ⟨g15, c15, cur15, hv15, x15, r15⟩ := own _ _ _ _ K15.out.1 (by omega)
                  obtain ⟨g16, c16, cur16, hv16, x16, r16⟩ := own _ _ _ _ K16.out.1 (by omega)
                  rw [hNb] at hv15
                  rw [hN] at hv16
                  subst hv15 hv16
                  have P15 : Hid (Bx w16 g15 53 cur15 ∧ ∀ i ad, (ptrsG p14 C14 b)[i]? = some ad → cur15[i]? = some (ptrV ad)) := Lib.hid ⟨x15.keep K16.out.2, r15⟩
                  have P16 : Hid (Bx w16 g16 53 cur16 ∧ ∀ i ad, (ptrsG p13 C13 a)[i]? = some ad → cur16[i]? = some (ptrV ad)) := Lib.hid ⟨x16, r16⟩
                  have hN9 : N ≤ 9000 := by
                    rw [← hNb, RB.out.1]
                    unfold valsG
                    have hcv : ∀ q, (cvV b q).length ≤ 1000 := fun q => by
                      unfold cvV
                      by_cases hq : q / 2 < 4
                      · have hm : b.cvs.getD (q / 2) ⟨0, [], []⟩ ∈ b.cvs := by rw [List.getD_eq_getElem?_getD, List.getElem?_eq_getElem (by have := HB.out.cvs.1; omega)]; exact List.getElem_mem _
                        have := HBR.out.cvs _ hm
                        split <;> omega
                      · rw [List.getD_eq_getElem?_getD, List.getElem?_eq_none (by have := HB.out.cvs.1; omega)]
                        split <;> simp
                    rw [show (List.range 8) = [0, 1, 2, 3, 4, 5, 6, 7] from rfl]
                    simp only [List.flatMap_cons, List.flatMap_nil, List.length_append, List.length_take, HB.out.whe.1, HB.out.lst.1, HB.out.mix.1, List.length_cons, List.length_nil]
                    have := hcv 0; have := hcv 1; have := hcv 2; have := hcv 3; have := hcv 4; have := hcv 5; have := hcv 6; have := hcv 7
                    omega
                  have hbp : ∀ q, q < 8 → cvV a q ≠ [] → bkq C13 q ≠ p13 := fun q hq hn => by
                    obtain ⟨_, _, ⟨cur, hc⟩, _⟩ := GA6.out.1.bk hq hn
                    exact hc.ne GA6.out.2.2 (by decide)
                  have HND : Hid ((ptrsG p13 C13 a).Nodup) := Lib.hid (GA6.out.1.nodup p13 hbp)
                  /- where the addresses lie -/
                  have hpl : ∀ ad ∈ ptrsG p13 C13 a, wq.heap.size ≤ ad.block ∧ ad.block < V13.heap.size ∧ ad.spot = none ∧ ∃ U cs, U ≠ 53 ∧ Bx w16 ad.block U cs := fun ad hm => by
                    rcases mem_ptrs GA6.out.1 hm with ⟨j, rfl, _⟩ | ⟨q, i, hq, hi, rfl⟩
                    · exact ⟨by have h1 := HPn13.out; have h2 := Q13.out.2.2.size; show wq.heap.size ≤ p13; omega, Y13.out.lt, rfl, _, _, by decide, GA6.out.2.2⟩
                    · have hn : cvV a q ≠ [] := fun e => by rw [e] at hi; simp at hi
                      obtain ⟨h1, h2, _⟩ := (Q13.out.2.1.keep Hb13.out).bk hq hn
                      obtain ⟨_, _, ⟨cur, hc⟩, _⟩ := GA6.out.1.bk hq hn
                      exact ⟨h1, h2, rfl, _, _, by decide, hc⟩
                  have hql : ∀ ad ∈ ptrsG p14 C14 b, V13.heap.size ≤ ad.block ∧ ad.block < w16.heap.size := fun ad hm => by
                    rcases mem_ptrs GB6.out.1 hm with ⟨j, rfl, _⟩ | ⟨q, i, hq, hi, rfl⟩
                    · exact ⟨by have h1 := HPn14.out; have h2 := Q14.out.2.2.size; show V13.heap.size ≤ p14; omega, GB6.out.2.2.lt⟩
                    · have hn : cvV b q ≠ [] := fun e => by rw [e] at hi; simp at hi
                      obtain ⟨h1, h2, _⟩ := GB6.out.1.bk hq hn
                      exact ⟨h1, h2⟩
                  have HPB : Hid (∀ ad ∈ ptrsG p13 C13 a, ad.block < w16.heap.size) := Lib.hid (fun ad hm => by
                    obtain ⟨_, _, _, U, cs, _, hx⟩ := hpl ad hm
                    exact hx.lt)
                  obtain ⟨F, hF⟩ : ∃ F : Nat → Value, F = fun i => .float .f32 (lerpV ((valsG a).getD i 0) ((valsG b).getD i 0) t) := ⟨_, rfl⟩
                  have HF := Lib.hid hF
                  have HPL := Lib.hid (And.intro hpl hql)
                  have HNN := Lib.hid (And.intro hN (And.intro hNb hvl))
                  clear hF hpl hql hN hNb hvl x15 x16 r15 r16 own hbp
                  go_wp2_with fail
                  go_loopw [95] (fun i wr2 => ∃ k : Nat, k ≤ N ∧ i = .int .i64 (k : Int) ∧ Hid (Sc (ptrsG p13 C13 a) F k w16 wr2)) (fun i _ => N - (RowKit.intOf i).toNat)
                  case atStart => exact ⟨0, by omega, rfl, Lib.hid (Sc.start _ _ _)⟩
                  case round =>
                    obtain ⟨k, hkN, rfl, HS⟩ := hrel
                    by_cases hlk : k < N
                    · obtain ⟨ad, had⟩ : ∃ ad, (ptrsG p13 C13 a)[k]? = some ad := ⟨_, List.getElem?_eq_getElem (by have := HNN.out.1; omega)⟩
                      obtain ⟨bd, hbd⟩ : ∃ ad, (ptrsG p14 C14 b)[k]? = some ad := ⟨_, List.getElem?_eq_getElem (by have := HNN.out.2.1; omega)⟩
                      obtain ⟨_, _, hsp, U, csU, hU, hxU⟩ := HPL.out.1 ad (List.mem_of_getElem? had)
                      have hbm := HPL.out.2 bd (List.mem_of_getElem? hbd)
                      have hnm : bd ∉ ptrsG p13 C13 a := fun hm => by have := HPL.out.1 bd hm; omega
                      have hng : ∀ (g : Nat) (cur : Array Value) (o : Nat), Bx w16 g 53 cur → (⟨g, o, none⟩ : Addr) ∉ ptrsG p13 C13 a := fun g cur o hx hm => by
                        obtain ⟨_, _, _, U', cs', hU', hx'⟩ := HPL.out.1 _ hm
                        exact (hx'.ne hx hU') rfl
                      have cx : wr.cell? ad = some (.float .f32 ((valsG a).getD k 0)) := by rw [HS.out.hi k (Nat.le_refl _) ad had]; exact RA.out.2 k ad had
                      have cy : wr.cell? bd = some (.float .f32 ((valsG b).getD k 0)) := by rw [HS.out.oth bd hbm.2 hnm]; exact RB.out.2 k bd hbd
                      have cf : wr.frozen? ad = false := by
                        rw [HS.out.fz ad hxU.lt]
                        obtain ⟨ab, ao, asp⟩ := ad
                        have e : asp = none := hsp
                        subst e
                        exact hxU.all.2.1 ao
                      have c1 : wr.cell? ⟨g16, k, none⟩ = some (.pointer (some ad)) := by rw [HS.out.oth _ P16.out.1.lt (hng g16 cur16 k P16.out.1), P16.out.1.all.1]; exact P16.out.2 k ad had
                      have c2 : wr.cell? ⟨g15, k, none⟩ = some (.pointer (some bd)) := by rw [HS.out.oth _ P15.out.1.lt (hng g15 cur15 k P15.out.1), P15.out.1.all.1]; exact P15.out.2 k bd hbd
                      have hbs : bd.spot = none := by
                        rcases mem_ptrs GB6.out.1 (List.mem_of_getElem? hbd) with ⟨j, rfl, _⟩ | ⟨q, i, hq, hi, rfl⟩ <;> rfl
                      obtain ⟨bk, ok, ksp⟩ := ad
                      obtain ⟨bq, oq, qsp⟩ := bd
                      have e1 : ksp = none := hsp
                      have e2 : qsp = none := hbs
                      subst e1 e2
                      obtain ⟨x, hx⟩ : ∃ x, (valsG a).getD k 0 = x := ⟨_, rfl⟩
                      obtain ⟨y, hy⟩ : ∃ y, (valsG b).getD k 0 = y := ⟨_, rfl⟩
                      obtain ⟨z, hz⟩ : ∃ z, lerpV x y t = z := ⟨_, rfl⟩
                      have HZ := Lib.hid hz
                      have HFk : Hid (F k = .float .f32 z) := Lib.hid (by rw [HF.out]; dsimp only; rw [hx, hy, hz])
                      rw [hx] at cx
                      rw [hy] at cy
                      have CX : Hid ((⟨bk, ok, none⟩ : Addr).block < wr.heap.size ∧ wr.cell? ⟨bk, ok, none⟩ = some (.float .f32 x)) := Lib.hid ⟨Nat.lt_of_lt_of_le hxU.lt HS.out.size, cx⟩
                      have CY : Hid ((⟨bq, oq, none⟩ : Addr).block < wr.heap.size ∧ wr.cell? ⟨bq, oq, none⟩ = some (.float .f32 y)) := Lib.hid ⟨Nat.lt_of_lt_of_le hbm.2 HS.out.size, cy⟩
                      have CQ : Hid ((⟨g15, k, none⟩ : Addr).block < wr.heap.size ∧ wr.cell? ⟨g15, k, none⟩ = some (.pointer (some ⟨bq, oq, none⟩))) := Lib.hid ⟨Nat.lt_of_lt_of_le P15.out.1.lt HS.out.size, c2⟩
                      have CFZ := Lib.hid cf
                      have HPK := Lib.hid had
                      have hd1 : decide ((k : Int) < (N : Int)) = true := decide_eq_true (by omega)
                      have z1 : (k : Int) < (N : Int) := by omega
                      clear had hbd hsp hU hxU hbm hnm hng cx cy cf c2 hbs hx hy hz
                      go_upto_region 26 with fail
                      clear c1 z1
                      refine wp_region_inv 14 (fun qz u' => u' = [(.pointer (some ⟨bk, ok, none⟩)), (.pointer (some ⟨bk, ok, none⟩)), (.pointer (some ⟨bk, ok, none⟩)), (.float .f32 x), (.slice (some ⟨g15, 0, none⟩) N c15), (.int .i64 (k : Int)), (.pointer (some ⟨g15, k, none⟩)), (.pointer (some ⟨bq, oq, none⟩)), (.pointer (some ⟨bq, oq, none⟩)), (.float .f32 y), (.float .f32 t), (.float .f32 z), (.pointer (some ⟨bk, ok, none⟩)), undef].getD qz undef) (fun d vs w' => (d 13 = false → Below wr.heap.size wr w') ∧ (d 13 = true → ∃ w1, Below wr.heap.size wr w1 ∧ w' = w1.setCell ⟨bk, ok, none⟩ (.float .f32 z)) ∧ (d 13 = true → d 11 = true) ∧ (d 11 = true → d 3 = true ∧ d 9 = true) ∧ (d 9 = true → d 7 = true) ∧ (d 8 = true → d 7 = true)) (by kernel_rfl) (by kernel_rfl) ?_ ?_ ?_
                      · intro vs
                        exact ⟨fun _ => (Below.refl _ _).drew, fun e => (by cases e), fun e => (by cases e), fun e => (by cases e), fun e => (by cases e), fun e => (by cases e)⟩
                      · intro iq oq hi ho
                        rcases (by omega : iq = 0 ∨ iq = 1 ∨ iq = 2 ∨ iq = 3 ∨ iq = 4 ∨ iq = 5 ∨ iq = 6 ∨ iq = 7 ∨ iq = 8 ∨ iq = 9 ∨ iq = 10 ∨ iq = 11 ∨ iq = 12 ∨ iq = 13) with rfl | rfl | rfl | rfl | rfl | rfl | rfl | rfl | rfl | rfl | rfl | rfl | rfl | rfl
                        all_goals simp only [List.getElem?_cons_zero, List.getElem?_cons_succ, Option.some.injEq] at ho
                        all_goals subst ho
                        all_goals intro d a0 wx hI hag hdep hun
                        · have e0 := slot_eq (hag 17 rfl)
                          exact inv_val (v := (.pointer (some ⟨bk, ok, none⟩))) (by simp [go_sem, e0]) (fun h => (by cases h)) rfl hI
                        · have e0 := slot_eq (hag 17 rfl)
                          exact inv_val (v := (.pointer (some ⟨bk, ok, none⟩))) (by simp [go_sem, e0]) (fun h => (by cases h)) rfl hI
                        · have e0 := slot_eq (hdep ⟨1, .data⟩ (by simp) rfl).1
                          exact inv_val (v := (.pointer (some ⟨bk, ok, none⟩))) (by simp [go_sem, e0]) (fun h => (by cases h)) rfl hI
                        · have h13 : d 13 = false := by
                            cases h : d 13
                            · rfl
                            · have h11 := hI.2.2.1 h
                              have := (hI.2.2.2.1 h11).1; rw [hun] at this; cases this
                          have hq := (hI.1 h13).cell (p := ⟨bk, ok, none⟩) CX.out.1
                          rw [CX.out.2] at hq
                          have e0 := slot_eq (hdep ⟨2, .data⟩ (by simp) rfl).1
                          exact inv_val (v := (.float .f32 x)) (by simp [go_sem, e0, hq]) (fun h => (by cases h)) rfl ⟨hI.1, hI.2.1, hI.2.2.1, fun h => ⟨rfl, (hI.2.2.2.1 h).2⟩, hI.2.2.2.2⟩
                        · have e0 := slot_eq (hag 15 rfl)
                          exact inv_val (v := (.slice (some ⟨g15, 0, none⟩) N c15)) (by simp [go_sem, e0]) (fun h => (by cases h)) rfl hI
                        · have e0 := slot_eq (hag 16 rfl)
                          exact inv_val (v := (.int .i64 (k : Int))) (by simp [go_sem, e0]) (fun h => (by cases h)) rfl hI
                        · have z1 : (k : Int) < (N : Int) := by omega
                          have e0 := slot_eq (hdep ⟨4, .data⟩ (by simp) rfl).1
                          have e1 := slot_eq (hdep ⟨5, .data⟩ (by simp) rfl).1
                          exact inv_val (v := (.pointer (some ⟨g15, k, none⟩))) (by simp [go_sem, e0, e1, z1, hlk]) (fun h => (by cases h)) rfl hI
                        · have h13 : d 13 = false := by
                            cases h : d 13
                            · rfl
                            · have h11 := hI.2.2.1 h
                              have := hI.2.2.2.2.1 (hI.2.2.2.1 h11).2; rw [hun] at this; cases this
                          have hq := (hI.1 h13).cell (p := ⟨g15, k, none⟩) CQ.out.1
                          rw [CQ.out.2] at hq
                          have e0 := slot_eq (hdep ⟨6, .data⟩ (by simp) rfl).1
                          exact inv_val (v := (.pointer (some ⟨bq, oq, none⟩))) (by simp [go_sem, e0, hq]) (fun h => (by cases h)) rfl ⟨hI.1, hI.2.1, hI.2.2.1, hI.2.2.2.1, fun _ => rfl, fun _ => rfl⟩
                        · have e0 := slot_eq (hdep ⟨7, .data⟩ (by simp) rfl).1
                          exact inv_val (v := (.pointer (some ⟨bq, oq, none⟩))) (by simp [go_sem, e0]) (fun h => (by cases h)) rfl ⟨hI.1, hI.2.1, hI.2.2.1, hI.2.2.2.1, hI.2.2.2.2.1, fun _ => (hdep ⟨7, .data⟩ (by simp) rfl).2⟩
                        · have h13 : d 13 = false := by
                            cases h : d 13
                            · rfl
                            · have h11 := hI.2.2.1 h
                              have := (hI.2.2.2.1 h11).2; rw [hun] at this; cases this
                          have hq := (hI.1 h13).cell (p := ⟨bq, oq, none⟩) CY.out.1
                          rw [CY.out.2] at hq
                          have e0 := slot_eq (hdep ⟨8, .data⟩ (by simp) rfl).1
                          exact inv_val (v := (.float .f32 y)) (by simp [go_sem, e0, hq]) (fun h => (by cases h)) rfl ⟨hI.1, hI.2.1, hI.2.2.1, fun h => ⟨(hI.2.2.2.1 h).1, rfl⟩, fun _ => hI.2.2.2.2.2 (hdep ⟨8, .data⟩ (by simp) rfl).2, hI.2.2.2.2.2⟩
                        · have e0 := slot_eq (hag 2 rfl)
                          exact inv_val (v := (.float .f32 t)) (by simp [go_sem, e0]) (fun h => (by cases h)) rfl hI
                        · have h13 : d 13 = false := by
                            cases h : d 13
                            · rfl
                            · have h11 := hI.2.2.1 h
                              rw [hun] at h11; cases h11
                          have e0 := slot_eq (hdep ⟨3, .data⟩ (by simp) rfl).1
                          have e1 := slot_eq (hdep ⟨9, .data⟩ (by simp) rfl).1
                          have e2 := slot_eq (hdep ⟨10, .data⟩ (by simp) rfl).1
                          refine inv_call (f := 13) (args := #[.float .f32 x, .float .f32 y, .float .f32 t]) (run_go_call Tryz.func13 (by kernel_rfl) (by kernel_rfl) _ _ _ _ _ _ _ _ _ _ (by simp [Act.eval, e0, e1, e2])) (fun h => (by cases h)) ?_
                          refine (num_Lerp x y t wx).mono ?_
                          rintro e w' ⟨rfl, hb⟩
                          rw [HZ.out]
                          exact ⟨_, rfl, rfl, fun _ => bcall (hI.1 h13) hb, fun h => (by rw [show upd d 11 true 13 = d 13 from rfl, h13] at h; cases h), fun _ => rfl, fun _ => ⟨(hdep ⟨3, .data⟩ (by simp) rfl).2, (hdep ⟨9, .data⟩ (by simp) rfl).2⟩, hI.2.2.2.2⟩
                        · have e0 := slot_eq (hdep ⟨0, .data⟩ (by simp) rfl).1
                          exact inv_val (v := (.pointer (some ⟨bk, ok, none⟩))) (by simp [go_sem, e0]) (fun h => (by cases h)) rfl hI
                        · have e0 := slot_eq (hdep ⟨12, .data⟩ (by simp) rfl).1
                          have e1 := slot_eq (hdep ⟨11, .data⟩ (by simp) rfl).1
                          have hq := (hI.1 hun).cell (p := ⟨bk, ok, none⟩) CX.out.1
                          rw [CX.out.2] at hq
                          have hf := (hI.1 hun).frozen (p := ⟨bk, ok, none⟩) CX.out.1
                          rw [CFZ.out] at hf
                          have h11 := (hdep ⟨11, .data⟩ (by simp) rfl).2
                          have hb := hI.1 hun
                          have hrest := hI.2.2.2
                          refine inv_skip (w' := wx.setCell ⟨bk, ok, none⟩ (.float .f32 z)) ?_ rfl ⟨fun h => (by cases h), fun _ => ⟨wx, hb, rfl⟩, fun _ => h11, hrest⟩
                          clear hI hag hdep hb hrest
                          simp [go_sem, e0, e1, hq, hf]
                      · intro d vs w6 hd hI hA
                        have k0 : vs 0 = (.pointer (some ⟨bk, ok, none⟩)) := hA 0 (by omega)
                        have k1 : vs 1 = (.pointer (some ⟨bk, ok, none⟩)) := hA 1 (by omega)
                        have k2 : vs 2 = (.pointer (some ⟨bk, ok, none⟩)) := hA 2 (by omega)
                        have k3 : vs 3 = (.float .f32 x) := hA 3 (by omega)
                        have k4 : vs 4 = (.slice (some ⟨g15, 0, none⟩) N c15) := hA 4 (by omega)
                        have k5 : vs 5 = (.int .i64 (k : Int)) := hA 5 (by omega)
                        have k6 : vs 6 = (.pointer (some ⟨g15, k, none⟩)) := hA 6 (by omega)
                        have k7 : vs 7 = (.pointer (some ⟨bq, oq, none⟩)) := hA 7 (by omega)
                        have k8 : vs 8 = (.pointer (some ⟨bq, oq, none⟩)) := hA 8 (by omega)
                        have k9 : vs 9 = (.float .f32 y) := hA 9 (by omega)
                        have k10 : vs 10 = (.float .f32 t) := hA 10 (by omega)
                        have k11 : vs 11 = (.float .f32 z) := hA 11 (by omega)
                        have k12 : vs 12 = (.pointer (some ⟨bk, ok, none⟩)) := hA 12 (by omega)
                        simp only [putAll, dstAt, List.getElem?_toArray, List.getElem?_cons_zero, List.getElem?_cons_succ, Option.bind_some, Option.bind_none, Act.put, List.setIfInBounds_toArray, List.set_cons_zero, List.set_cons_succ, k0, k1, k2, k3, k4, k5, k6, k7, k8, k9, k10, k11, k12]
                        obtain ⟨w1, hw1, hw6⟩ := hI.2.1 (hd 13 (by omega))
                        have hstep := Sc.step (Sc.call HS.out hw1 HPB.out) HND.out HPB.out HPK.out (u := .float .f32 x) ((hw1.cell (p := ⟨bk, ok, none⟩) CX.out.1).trans CX.out.2)
                        rw [HFk.out] at hstep
                        rw [← hw6] at hstep
                        have HN := Lib.hid hstep
                        have HK := Lib.hid hlk
                        clear hI hA hd k0 k1 k2 k3 k4 k5 k6 k7 k8 k9 k10 k11 k12 hw1 hw6 hstep hlk hd1
                        have hk9 : k < N := HK.out
                        go_wp2_with fail
                        go_roundw
                        case rel => exact ⟨k + 1, by omega, by go_num, HN⟩
                        case measure => simp [RowKit.intOf]; omega
                    · obtain rfl : k = N := by omega
                      have hal := HP2.out.alike
                      have hzl : ∀ (xs ys : List Nat) (i : Nat), i < (lerpL t xs ys).length → (lerpL t xs ys).getD i 0 = lerpV (xs.getD i 0) (ys.getD i 0) t := fun xs ys i hi => by
                        unfold lerpL at hi ⊢
                        rw [List.length_zipWith] at hi
                        rw [List.getD_eq_getElem?_getD, List.getElem?_zipWith, List.getD_eq_getElem?_getD, List.getD_eq_getElem?_getD, List.getElem?_eq_getElem (show i < xs.length by omega), List.getElem?_eq_getElem (show i < ys.length by omega)]
                        rfl
                      have hvm := vals_mix hal t
                      have hFv : ∀ i, i < (ptrsG p13 C13 a).length → F i = .float .f32 ((valsG { mixG a b t with pts := a.pts }).getD i 0) := fun i hi => by
                        show F i = .float .f32 ((valsG (mixG a b t)).getD i 0)
                        rw [← hvm, hzl _ _ _ (by rw [zip_len HNN.out.2.2, ← RA.out.1]; exact hi), HF.out]
                      have hS := HS.out
                      rw [← HNN.out.1] at hS
                      have k1 : (mixG a b t).whe.length = 9 := by show (lerpL t a.whe b.whe).length = 9; rw [zip_len (by rw [hal.whe.1, hal.whe.2]), hal.whe.1]
                      have k2 : (mixG a b t).lst.length = 10 := by show (lerpL t a.lst b.lst).length = 10; rw [zip_len (by rw [hal.lst.1, hal.lst.2]), hal.lst.1]
                      have k3 : (mixG a b t).mix.length = 12 := by show (lerpL t a.mix b.mix).length = 12; rw [zip_len (by rw [hal.mix.1, hal.mix.2]), hal.mix.1]
                      have k4 : (mixG a b t).cvs.length = 4 := by show (List.zipWith (mixCv t) a.cvs b.cvs).length = 4; rw [List.length_zipWith, hal.cvs.1, hal.cvs.2]; rfl
                      have kcl : ∀ q, q < 8 → (cvV { mixG a b t with pts := a.pts } q).length = (cvV a q).length := fun q hq => by
                        show (cvV (mixG a b t) q).length = _
                        rw [mix_cv hal t hq, zip_len (hal.len q hq)]
                      have kck : ∀ (i : Nat) (c' : Cv), (mixG a b t).cvs[i]? = some c' → ∃ c, a.cvs[i]? = some c ∧ c.kind = c'.kind := fun i c' hc' => by
                        have hi : i < 4 := by have := (List.getElem?_eq_some_iff.1 hc').1; rw [k4] at this; exact this
                        refine ⟨_, List.getElem?_eq_getElem (show i < a.cvs.length by rw [hal.cvs.1]; exact hi), ?_⟩
                        have h2 : (List.zipWith (mixCv t) a.cvs b.cvs)[i]? = some c' := hc'
                        rw [List.getElem?_zipWith, List.getElem?_eq_getElem (show i < a.cvs.length by rw [hal.cvs.1]; exact hi), List.getElem?_eq_getElem (show i < b.cvs.length by rw [hal.cvs.2]; exact hi)] at h2
                        obtain rfl := Option.some.inj h2
                        rfl
                      obtain ⟨D0, hD0, hGD0⟩ := unread GA6.out.1 GA6.out.2.2 GA6.out.2.1 hS hFv rfl rfl k1 k2 k3 k4 kck kcl
                      have hCD0 := unread_cs GA6.out.1 GA6.out.2.2 GA6.out.2.1 hS hFv k1 k2 k3 kcl hD0
                      have HS0 : Hid (Bx wr p13 37 D0 ∧ GdAt wr D0 { mixG a b t with pts := ptsTo a b t 0 } ∧ CS wq.heap.size { mixG a b t with pts := ptsTo a b t 0 } 8 D0 wr ∧ Below W1.heap.size W1 wr) := Lib.hid (by
                        rw [ptsTo_zero]
                        exact ⟨hD0, hGD0, hCD0, sc_below HS.out (fun ad hm => Nat.le_trans HBj.out.size (HPL.out.1 ad hm).1) (Nat.le_trans HBX.out.size H46.out.size) (HBX.out.trans (H46.out.mono HBX.out.size))⟩)
                      have HP46 : Hid (W1.heap.size ≤ p13) := Lib.hid (by have h1 := HPn13.out; have h2 := Q13.out.2.2.size; have h3 := HBj.out.size; omega)
                      clear hal hzl hvm hFv hS k1 k2 k3 k4 kcl kck hD0 hGD0 hCD0 hlk
                      obtain ⟨hE1, hE2⟩ := part_cells (X3.out.keep HS0.out.2.2.2) 46 3 (by rw [HA.out.size]; omega)
                      obtain ⟨DP, hDP⟩ : ∃ DP, Ca.extract 46 (46 + 3) = DP := ⟨_, rfl⟩
                      have hDg : ∀ k, k < 3 → DP[k]? = some (.int .i64 (a.pts.getD k 0)) := fun k hk => by rw [← hDP, part_get HA.out 46 3 (by omega) k hk]; exact HA.out.pts.2 k hk
                      rw [hDP] at hE1 hE2
                      have HDP := Lib.hid (And.intro hE1 (And.intro hE2 hDg))
                      clear hE1 hE2 hDg hDP
                      go_wp2_with (refine wpList_load_cells rfl 35 (.tmp 114) rfl p3 46 rfl DP HDP.out.2.1 _ Tryz.underlying35 rfl (by rw [HDP.out.1]; exact size_i3) ?_)
                      go_loopw [116] (fun i wr3 => ∃ (j : Nat) (D : Array Value), j ≤ 3 ∧ i = .int .i64 (j : Int) ∧ Hid (Bx wr3 p13 37 D ∧ GdAt wr3 D { mixG a b t with pts := ptsTo a b t j } ∧ CS wq.heap.size { mixG a b t with pts := ptsTo a b t j } 8 D wr3 ∧ Below W1.heap.size W1 wr3)) (fun i _ => 3 - (RowKit.intOf i).toNat)
                      case atStart => exact ⟨0, D0, by omega, rfl, HS0⟩
                      case round =>
                        clear HS0
                        obtain ⟨j, D, hj, rfl, HSJ⟩ := hrel
                        by_cases hlj : j < 3
                        · obtain ⟨n, hn⟩ : ∃ n, a.pts.getD j 0 = n := ⟨_, rfl⟩
                          obtain ⟨m, hm⟩ : ∃ m, b.pts.getD j 0 = m := ⟨_, rfl⟩
                          have HX : Hid (DP[j]? = some (.int .i64 n)) := Lib.hid (by rw [← hn]; exact HDP.out.2.2 j hlj)
                          have qm : wr.cell? ⟨p4, 46 + j, none⟩ = some (.int .i64 m) := by rw [(X4.out.keep HSJ.out.2.2.2).all.1, HB.out.pts.2 j hlj, hm]
                          have HNM : Hid (ptsTo a b t (j + 1) = (ptsTo a b t j).set j (ptMix n m t)) := Lib.hid (by rw [ptsTo_succ HP2.out.pts.1 HP2.out.pts.2 hlj, hn, hm])
                          have hd1 : decide ((j : Int) < 3) = true := decide_eq_true (by omega)
                          have z1 : (j : Int) < 3 := by omega
                          clear hn hm
                          go_wp2_with (refine wpList_index_pt rfl (.tmp 115) (.tmp 116) rfl rfl rfl hlj HX.out ?_)
                          refine (num_Lerp (floatOfInt .f32 n) (floatOfInt .f32 m) t wr).mono ?_
                          rintro e w2 ⟨rfl, hb2⟩
                          have HB2 := Lib.hid hb2
                          clear hb2 qm
                          go_wp2_with fail
                          refine (num_Near50 _ w2).mono ?_
                          rintro e w3 ⟨nb, rfl, rfl⟩
                          have HX2 := Lib.hid (HSJ.out.1.keep HB2.out)
                          obtain ⟨v, hv⟩ : ∃ v, nearP (lerpV (floatOfInt .f32 n) (floatOfInt .f32 m) t) = v := ⟨_, rfl⟩
                          have HV : Hid (ptMix n m t = v) := Lib.hid hv
                          rw [hv]
                          have hx2 := HX2.out.all
                          have hfz := hx2.2.1 (46 + j)
                          have hcz := hx2.1 (46 + j)
                          rw [HSJ.out.2.1.pts.2 j hlj] at hcz
                          have HPT := Lib.hid (put_pt (HSJ.out.2.1.keep HB2.out) (HSJ.out.2.2.1.keep HB2.out) HX2.out hlj v)
                          have HK := Lib.hid hlj
                          clear hx2 hv hlj hd1
                          have hj3 : j < 3 := HK.out
                          go_wp2_with fail
                          go_roundw
                          case rel => exact ⟨j + 1, _, by omega, by go_num, Lib.hid (by
                            rw [HNM.out, HV.out]
                            exact ⟨HX2.out.set _ _, HPT.out.1, HPT.out.2, (HSJ.out.2.2.2.trans (HB2.out.mono HSJ.out.2.2.2.size)).setCell (p := ⟨p13, 46 + j, none⟩) HP46.out _⟩)⟩
                          case measure => simp [RowKit.intOf]; omega
                        · obtain rfl : j = 3 := by omega
                          have HG3 : Hid (GdAt wr D (mixG a b t)) := Lib.hid (by
                            have := HSJ.out.2.1
                            rw [ptsTo_three HP2.out.pts.1 HP2.out.pts.2] at this
                            exact this)
                          have HLD : Hid (∀ (q : Nat) (v : Value), D[q]? = some v → wr.cell? ⟨p13, 0 + q, none⟩ = some v) := Lib.hid (fun q v hq => by rw [HSJ.out.1.all.1, Nat.zero_add]; exact hq)
                          have SD : Hid ((Tryz.prog.info? 37).map (·.size) = some D.size) := Lib.hid (by rw [HG3.out.size]; exact grade_size)
                          go_wp2_with (refine wpList_load_cells rfl 37 (.tmp 13) rfl p13 0 rfl D HLD.out _ Tryz.underlying37 rfl SD.out ?_)
                          refine (grade_CheckGrade D (mixG a b t) wr HG3.out).mono ?_
                          rintro e w9 ⟨rfl, hb9⟩
                          have HB9 := Lib.hid hb9
                          have HB19 : Hid (Below W1.heap.size W1 w9) := Lib.hid (bcall HSJ.out.2.2.2 hb9)
                          have HW9 : Hid (Below W.heap.size W w9) := Lib.hid (HW1.out.trans (HB19.out.mono HW1.out.size))
                          obtain ⟨E, hE⟩ : ∃ E, gradeErr (mixG a b t) = E := ⟨_, rfl⟩
                          rw [hE]
                          have HBE : Hid (betErr a b t = E) := Lib.hid (HB5.out.trans hE)
                          clear hb9 hE hj hlj
                          by_cases e0 : E = 0
                          · subst e0
                            have HX6 := Lib.hid (X6.out.keep HB19.out)
                            have HG9 := Lib.hid (HG3.out.keep HB9.out)
                            have HLD9 : Hid (∀ (q : Nat) (v : Value), D[q]? = some v → w9.cell? ⟨p13, 0 + q, none⟩ = some v) := Lib.hid (fun q v hq => by rw [(HSJ.out.1.keep HB9.out).all.1, Nat.zero_add]; exact hq)
                            go_wp2_with (first | refine wpList_load_cells rfl 37 (.tmp 13) rfl p13 0 rfl D HLD9.out _ Tryz.underlying37 rfl SD.out ?_ | refine wpList_store_rowG rfl (.tmp 6) (.tmp 144) rfl p6 D rfl rfl HX6.out zeroGr_ok.1 HG9.out.size HG9.out.one ?_)
                            have XZ : Bx (w9.setRow p6 D) p6 37 D := setRow_heap _ p6 _ D 37 (0, 0) HX6.out
                            have hCS := HSJ.out.2.2.1.keep HB9.out
                            have hne : ∀ q, q ≠ p6 → (w9.setRow p6 D).heap[q]? = w9.heap[q]? := fun q hq => setRow_other w9 p6 q D hq
                            have hGF : GdAt (w9.setRow p6 D) D (mixG a b t) := by
                              have h := HG9.out
                              refine ⟨h.size, h.one, h.kind, h.whe, h.lst, ⟨h.cvs.1, fun i c hc => ?_⟩, h.mix, h.piv, h.amt, h.pts⟩
                              have hi : i < 4 := by have := (List.getElem?_eq_some_iff.1 hc).1; rw [h.cvs.1] at this; exact this
                              have hr : ∀ q, q < 8 → ∃ v, D[cvC q]? = some v ∧ OwF wq.heap.size (w9.setRow p6 D) v (cvV (mixG a b t) q) := fun q hq => by
                                obtain ⟨v, e1, e2⟩ := hCS.row q hq
                                exact ⟨v, e1, e2.at fun bq cur _ hb => hne bq (hb.ne HX6.out (by decide))⟩
                              obtain ⟨vx, x1, x2⟩ := hr (2 * i) (by omega)
                              obtain ⟨vy, y1, y2⟩ := hr (2 * i + 1) (by omega)
                              have hcv := cvV_x hc
                              rw [hcv.1] at x2
                              rw [hcv.2] at y2
                              refine ⟨(h.cvs.2 i c hc).1, ⟨vx, ?_, x2.sl⟩, vy, ?_, y2.sl⟩
                              · rw [← x1]; congr 1; unfold cvC; omega
                              · rw [← y1]; congr 1; unfold cvC; omega
                            refine bodyPost_ret (v := .tuple #[.agg D, .int .i64 0]) (results_two (p := 6) (q := 7) (by kernel_rfl) _ _ p6 D _ rfl rfl XZ HG9.out.size) rfl ⟨D, by rw [HBE.out], HG9.out.size, HG9.out.one, fun _ => hGF, fun h => absurd HBE.out h, below_setRow HW9.out (by have := HP.out; omega) D⟩
                          · have e0' := e0
                            have HX6 := Lib.hid (X6.out.keep HB19.out)
                            go_wp2_with (refine wpList_store_rowG rfl (.tmp 6) (.tmp 142) rfl p6 zeroGr rfl rfl HX6.out zeroGr_ok.1 zeroGr_ok.1 zeroGr_ok.2.1 ?_)
                            have XZ : Bx ((w9 : World).setRow p6 zeroGr) p6 37 zeroGr := setRow_heap _ p6 _ zeroGr 37 (0, 0) HX6.out
                            refine bodyPost_ret (v := .tuple #[.agg zeroGr, .int .i64 E]) (results_two (p := 6) (q := 7) (by kernel_rfl) _ _ p6 zeroGr _ rfl rfl XZ zeroGr_ok.1) rfl (BetIs.err (HBE.out) (by exact e0') (below_setRow (HW9.out) (by have := HP.out; omega) zeroGr))
                · have HBE : Hid (betErr a b t = 3) := Lib.hid (by unfold betErr; rw [if_neg (by rw [HR.out.1]; decide), if_neg (by rw [HR.out.2]; decide), if_neg (by rw [HCB.out]; decide), if_neg (by rw [HNT.out]; decide), if_pos (by unfold outT; rw [ht1, ht2]; rfl)])
                  have HX6 := Lib.hid (X6.out.keep HBj.out)
                  go_wp2_with (refine wpList_store_rowG rfl (.tmp 6) (.tmp 87) rfl p6 zeroGr rfl rfl HX6.out zeroGr_ok.1 zeroGr_ok.1 zeroGr_ok.2.1 ?_)
                  have XZ : Bx ((wr : World).setRow p6 zeroGr) p6 37 zeroGr := setRow_heap _ p6 _ zeroGr 37 (0, 0) HX6.out
                  refine bodyPost_ret (v := .tuple #[.agg zeroGr, .int .i64 3]) (results_two (p := 6) (q := 7) (by kernel_rfl) _ _ p6 zeroGr _ rfl rfl XZ zeroGr_ok.1) rfl (BetIs.err (HBE.out) (by decide) (below_setRow (HW1.out.trans (HBj.out.mono HW1.out.size)) (by have := HP.out; omega) zeroGr))
              · have HBE : Hid (betErr a b t = 3) := Lib.hid (by unfold betErr; rw [if_neg (by rw [HR.out.1]; decide), if_neg (by rw [HR.out.2]; decide), if_neg (by rw [HCB.out]; decide), if_neg (by rw [HNT.out]; decide), if_pos (by unfold outT; rw [ht1]; rfl)])
                have HX6 := Lib.hid (X6.out.keep HBj.out)
                go_wp2_with (refine wpList_store_rowG rfl (.tmp 6) (.tmp 87) rfl p6 zeroGr rfl rfl HX6.out zeroGr_ok.1 zeroGr_ok.1 zeroGr_ok.2.1 ?_)
                have XZ : Bx ((wr : World).setRow p6 zeroGr) p6 37 zeroGr := setRow_heap _ p6 _ zeroGr 37 (0, 0) HX6.out
                refine bodyPost_ret (v := .tuple #[.agg zeroGr, .int .i64 3]) (results_two (p := 6) (q := 7) (by kernel_rfl) _ _ p6 zeroGr _ rfl rfl XZ zeroGr_ok.1) rfl (BetIs.err (HBE.out) (by decide) (below_setRow (HW1.out.trans (HBj.out.mono HW1.out.size)) (by have := HP.out; omega) zeroGr))
          · have HBE : Hid (betErr a b t = 12) := Lib.hid (by unfold betErr; rw [if_neg (by rw [HR.out.1]; decide), if_neg (by rw [HR.out.2]; decide), if_pos HCB.out])
            have HX6 := Lib.hid (X6.out.keep HBj.out)
            go_wp2_with (refine wpList_store_rowG rfl (.tmp 6) (.tmp 74) rfl p6 zeroGr rfl rfl HX6.out zeroGr_ok.1 zeroGr_ok.1 zeroGr_ok.2.1 ?_)
            have XZ : Bx ((wr : World).setRow p6 zeroGr) p6 37 zeroGr := setRow_heap _ p6 _ zeroGr 37 (0, 0) HX6.out
            refine bodyPost_ret (v := .tuple #[.agg zeroGr, .int .i64 12]) (results_two (p := 6) (q := 7) (by kernel_rfl) _ _ p6 zeroGr _ rfl rfl XZ zeroGr_ok.1) rfl (BetIs.err (HBE.out) (by decide) (below_setRow (HW1.out.trans (HBj.out.mono HW1.out.size)) (by have := HP.out; omega) zeroGr))
end Go.Proofs.YtpmbmpfkoffioaaGreatDoor
