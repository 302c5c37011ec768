/- grade.Print of right grades. (printed by gen_lkc.py) -/
import Derived.Test.YticekgnmiaidjaaGreatDoorLkB
import Derived.Test.YticekgnmiaidjaaGreatDoorNuN
import Derived.Test.YticekgnmiaidjaaGreatDoorNuA
import Derived.Test.YticekgnmiaidjaaGreatDoorNuE
import Derived.Test.YticekgnmiaidjaaGreatDoorGnF
import Derived.Test.YticekgnmiaidjaaGreatDoorFfJ
namespace Go.Proofs.YticekgnmiaidjaaGreatDoor
open Go.RowKit Go.Lib

/-- A word is chosen out of a list of words and written, under way. -/
structure S8 (W : World) (B p7 : Nat) (C : Array Value) (l s : List UInt8) (N m : Nat) (K : List ByteArray) (kn q : Nat) (T : TypeId) (D : Array Value) (d0 d3 d4 d5 : Bool) (v0 v3 : Value) (w : World) : Prop where
  f3 : d3 = true → d0 = true
  f4 : d4 = true → d3 = true
  f5 : d5 = true → d4 = true
  pr : d5 = false → PrS W B p7 C l N w
  px : d5 = true → PrS W B p7 C (l ++ s) (N + m) w
  wd : d0 = true → d5 = false → ∃ g, v0 = .slice (some ⟨g, 0, none⟩) K.length K.length ∧ Bx w g 9 (K.map Value.string).toArray
  wp : d3 = true → d5 = false → ∃ g, v3 = .pointer (some ⟨g, kn, none⟩) ∧ Bx w g 9 (K.map Value.string).toArray
  xb : Bx w q T D
  tq : T ≠ 5
  qB : q ≠ B
theorem S8.keep {W : World} {B p7 : Nat} {C : Array Value} {l s : List UInt8} {N m : Nat} {K : List ByteArray} {kn q : Nat} {T : TypeId} {D : Array Value} {d0 d3 d4 d5 : Bool} {v0 v3 : Value} {w : World} (h : S8 W B p7 C l s N m K kn q T D d0 d3 d4 d5 v0 v3 w) {w' : World} (hb : Below w.heap.size w w') : S8 W B p7 C l s N m K kn q T D d0 d3 d4 d5 v0 v3 w' :=
  ⟨h.f3, h.f4, h.f5, fun e => (h.pr e).keep hb, fun e => (h.px e).keep hb, fun a b => (by obtain ⟨g, e, x⟩ := h.wd a b; exact ⟨g, e, x.keep hb⟩), fun a b => (by obtain ⟨g, e, x⟩ := h.wp a b; exact ⟨g, e, x.keep hb⟩), h.xb.keep hb, h.tq, h.qB⟩
theorem S8.set0 {W : World} {B p7 : Nat} {C : Array Value} {l s : List UInt8} {N m : Nat} {K : List ByteArray} {kn q : Nat} {T : TypeId} {D : Array Value} {d0 d3 d4 d5 : Bool} {v0 v3 : Value} {w : World} (h : S8 W B p7 C l s N m K kn q T D d0 d3 d4 d5 v0 v3 w) (h0 : d0 = false) {w' : World} (hb : Below w.heap.size w w') {g : Nat} (hx : Bx w' g 9 (K.map Value.string).toArray) : S8 W B p7 C l s N m K kn q T D true d3 d4 d5 (.slice (some ⟨g, 0, none⟩) K.length K.length) v3 w' := by
  have e3 : d3 = false := Bool.eq_false_iff.2 fun e => by have := h.f3 e; rw [h0] at this; cases this
  have e4 : d4 = false := Bool.eq_false_iff.2 fun e => by have := h.f4 e; rw [e3] at this; cases this
  have e5 : d5 = false := Bool.eq_false_iff.2 fun e => by have := h.f5 e; rw [e4] at this; cases this
  exact ⟨fun _ => rfl, h.f4, h.f5, fun e => (h.pr e).keep hb, fun e => (by rw [e5] at e; cases e), fun _ _ => ⟨g, rfl, hx⟩, fun e _ => (by rw [e3] at e; cases e), h.xb.keep hb, h.tq, h.qB⟩
theorem S8.set3 {W : World} {B p7 : Nat} {C : Array Value} {l s : List UInt8} {N m : Nat} {K : List ByteArray} {kn q : Nat} {T : TypeId} {D : Array Value} {d0 d3 d4 d5 : Bool} {v0 v3 : Value} {w : World} (h : S8 W B p7 C l s N m K kn q T D d0 d3 d4 d5 v0 v3 w) (h0 : d0 = true) (h3 : d3 = false) : ∃ g, v0 = .slice (some ⟨g, 0, none⟩) K.length K.length ∧ S8 W B p7 C l s N m K kn q T D d0 true d4 d5 v0 (.pointer (some ⟨g, kn, none⟩)) w := by
  have e4 : d4 = false := Bool.eq_false_iff.2 fun e => by have := h.f4 e; rw [h3] at this; cases this
  have e5 : d5 = false := Bool.eq_false_iff.2 fun e => by have := h.f5 e; rw [e4] at this; cases this
  obtain ⟨g, e, x⟩ := h.wd h0 e5
  exact ⟨g, e, fun _ => h0, fun _ => rfl, h.f5, h.pr, h.px, h.wd, fun _ _ => ⟨g, rfl, x⟩, h.xb, h.tq, h.qB⟩
theorem S8.set4 {W : World} {B p7 : Nat} {C : Array Value} {l s : List UInt8} {N m : Nat} {K : List ByteArray} {kn q : Nat} {T : TypeId} {D : Array Value} {d0 d3 d4 d5 : Bool} {v0 v3 : Value} {w : World} (h : S8 W B p7 C l s N m K kn q T D d0 d3 d4 d5 v0 v3 w) (h3 : d3 = true) (h4 : d4 = false) : ∃ g, v3 = .pointer (some ⟨g, kn, none⟩) ∧ Bx w g 9 (K.map Value.string).toArray ∧ S8 W B p7 C l s N m K kn q T D d0 d3 true d5 v0 v3 w := by
  have e5 : d5 = false := Bool.eq_false_iff.2 fun e => by have := h.f5 e; rw [h4] at this; cases this
  obtain ⟨g, e, x⟩ := h.wp h3 e5
  exact ⟨g, e, x, h.f3, fun _ => h3, fun _ => rfl, h.pr, h.px, h.wd, h.wp, h.xb, h.tq, h.qB⟩
theorem S8.set5 {W : World} {B p7 : Nat} {C : Array Value} {l s : List UInt8} {N m : Nat} {K : List ByteArray} {kn q : Nat} {T : TypeId} {D : Array Value} {d0 d3 d4 d5 : Bool} {v0 v3 : Value} {w : World} (h : S8 W B p7 C l s N m K kn q T D d0 d3 d4 d5 v0 v3 w) (h4 : d4 = true) {w' : World} (hp : PrS W B p7 C (l ++ s) (N + m) w') (ha : Apart B w w') : S8 W B p7 C l s N m K kn q T D d0 d3 d4 true v0 v3 w' :=
  ⟨h.f3, h.f4, fun _ => h4, fun e => (by cases e), fun _ => hp, fun _ e => (by cases e), fun _ e => (by cases e), ha q T D h.tq h.qB h.xb, h.tq, h.qB⟩
def curveP : List ByteArray := [⟨#[]⟩, ⟨#[32, 108, 105, 110, 101, 97, 114, 32]⟩, ⟨#[32, 115, 109, 111, 111, 116, 104, 32]⟩]
theorem S8.bel {W : World} {B p7 : Nat} {C : Array Value} {l s : List UInt8} {N m : Nat} {K : List ByteArray} {kn q : Nat} {T : TypeId} {D : Array Value} {d0 d3 d4 d5 : Bool} {v0 v3 : Value} {w : World} (h : S8 W B p7 C l s N m K kn q T D d0 d3 d4 d5 v0 v3 w) : Below W.heap.size W w := by
  cases d5
  · exact (h.pr rfl).bel
  · exact (h.px rfl).bel
theorem curveP_arr : (curveP.map Value.string).toArray = #[.string ⟨#[]⟩, .string ⟨#[32, 108, 105, 110, 101, 97, 114, 32]⟩, .string ⟨#[32, 115, 109, 111, 111, 116, 104, 32]⟩] := rfl
theorem sub_get {C : Array Value} {xs : List Nat} {o m : Nat} (h : ∀ i, i < m → C[o + i]? = some (.float .f32 (xs.getD i 0))) (s n : Nat) (hs : s + n ≤ m) : ∀ i, i < n → C[o + s + i]? = some (.float .f32 (((xs.drop s).take n).getD i 0)) := fun i hi => by
  rw [Nat.add_assoc, h (s + i) (by omega)]
  simp only [List.getD_eq_getElem?_getD, List.getElem?_take_of_lt hi, List.getElem?_drop]
theorem sub_mem {xs : List Nat} {s n : Nat} (h : ∀ x ∈ xs, x < 4294967296) : ∀ x ∈ (xs.drop s).take n, x < 4294967296 := fun x hx => h x (List.mem_of_mem_drop (List.mem_of_mem_take hx))
theorem sub_len {xs : List Nat} {s n m : Nat} (h : xs.length = m) (hs : s + n ≤ m) : ((xs.drop s).take n).length = n := by
  rw [List.length_take, List.length_drop]; omega
theorem parts9 {xs : List Nat} (h : xs.length = 9) : tlW (((xs.drop 0).take 3).map textF) ++ tlW (((xs.drop 3).take 3).map textF) ++ tlW (((xs.drop 6).take 3).map textF) = tlW (xs.map textF) := by
  rw [← tlW_append, ← tlW_append, ← List.map_append, ← List.map_append]
  congr 2
  match xs, h with
  | [a, b, c, d, e, f, g, i, j], _ => rfl
theorem parts10 {xs : List Nat} (h : xs.length = 10) : tlW (((xs.drop 0).take 3).map textF) ++ tlW (((xs.drop 3).take 3).map textF) ++ tlW (((xs.drop 6).take 3).map textF) ++ tlW ([xs.getD 9 0].map textF) = tlW (xs.map textF) := by
  rw [← tlW_append, ← tlW_append, ← tlW_append, ← List.map_append, ← List.map_append, ← List.map_append]
  congr 2
  match xs, h with
  | [a, b, c, d, e, f, g, i, j, k], _ => rfl
theorem PrS.up {W : World} {B p7 : Nat} {C : Array Value} {l : List UInt8} {N N' : Nat} {w : World} (h : PrS W B p7 C l N w) (hN : N ≤ N') : PrS W B p7 C l N' w := ⟨h.bt, h.bel, h.x7, h.ne, h.le, Nat.le_trans h.len hN⟩
set_option maxRecDepth 100000 in
set_option maxHeartbeats 64000000 in
theorem grade_Print (v : Value) (gs : List Gd) (W : World) (E : EnvF W) (hS : SlG W v gs) (he : gradesErr gs = 0) (hw : ∀ g ∈ gs, GdW g) :
    Calls Tryz.prog 108 #[v] W fun e w' => e = .returned (.tuple #[.string (linesG gs), .int .i64 0]) ∧ Below W.heap.size W w' := by
  have HE := Lib.hid E
  have h64 : gs.length ≤ 64 ∧ ∀ g ∈ gs, gradeErr g = 0 := by
    unfold gradesErr at he
    by_cases h : 64 < gs.length
    · rw [if_pos h] at he; cases he
    · rw [if_neg h] at he
      exact ⟨by omega, firstErr_zero he⟩
  have H0 := Lib.hid (And.intro h64.2 (And.intro hw he))
  have HS := Lib.hid hS
  obtain ⟨a, c, rfl, _⟩ := hS
  obtain ⟨n, hn⟩ : ∃ n, gs.length = n := ⟨_, rfl⟩
  have hn64 : n ≤ 64 := by rw [← hn]; exact h64.1
  have HN := Lib.hid hn
  rw [hn] at HS ⊢
  clear hn E h64 he hw
  go_enter Tryz.func108, Tryz.ntmps108
  go_wp2_with fail
  refine (grade_checkAll _ gs W HS.out).mono ?_
  rintro e w1 ⟨rfl, hb1⟩
  rw [H0.out.2.2]
  have HB1 := Lib.hid hb1
  clear hb1
  go_upto_region 5 with fail
  refine name_world ?_
  intro w0 hw0
  have bt : Hid (BT w1.heap.size [] w0) := Lib.hid (by rw [hw0]; exact Lib.fresh_isBuilder _ _ _)
  have B0 : Hid (Below W.heap.size W w0) := Lib.hid (by rw [hw0]; exact bnew HB1.out)
  have hWB := HB1.out.size
  obtain ⟨B, hB⟩ : ∃ B, w1.heap.size = B := ⟨_, rfl⟩
  rw [hB] at bt hWB ⊢
  clear hw0 hB
  go_wp2_with fail
  go_loopw [22] (fun i wr => ∃ k : Nat, k ≤ n ∧ i = .int .i64 (k : Int) ∧ Hid (BT B (linesG (gs.take k)).data.toList wr ∧ Below W.heap.size W wr ∧ (linesG (gs.take k)).data.toList.length ≤ 100000 * k)) (fun i _ => n - (RowKit.intOf i).toNat)
  case atStart => exact ⟨0, Nat.zero_le _, rfl, Lib.hid ⟨bt.out, B0.out, Nat.le_refl _⟩⟩
  case round =>
    obtain ⟨k, hk, rfl, HI⟩ := hrel
    by_cases hlt : k < n
    · obtain ⟨g, hg⟩ : ∃ g, gs[k]? = some g := ⟨_, List.getElem?_eq_getElem (by have := HN.out; omega)⟩
      obtain ⟨b, o, d1, C, e1, hC, hcl0⟩ := HS.out.row (Below.refl _ _) hg
      have hcl : ∀ (j : Nat) (u : Value), C[j]? = some u → wr.cell? ⟨b, o + k * 49 + j, none⟩ = some u := fun j u hj => cell_belowF HI.out.2.1 (hcl0 j u hj)
      obtain ⟨rfl, rfl⟩ : a = some ⟨b, o, none⟩ ∧ c = d1 := by cases e1; exact ⟨rfl, rfl⟩
      have hmem := List.mem_of_getElem? hg
      have hge := H0.out.1 g hmem
      have hrt := right_of hge
      have hwd := H0.out.2.1 g hmem
      have hgo := gdOk hrt hwd hC.pts.1
      obtain ⟨L, hL⟩ : ∃ L, (linesG (gs.take k)).data.toList = L := ⟨_, rfl⟩
      obtain ⟨L2, hL2⟩ : ∃ L2, (linesG (gs.take (k + 1))).data.toList = L2 := ⟨_, rfl⟩
      have hnx := linesG_tl hg
      rw [hL, hL2] at hnx
      rw [hL] at HI
      have hsz : (Tryz.prog.info? 46).map (·.size) = some C.size := by rw [hC.size]; exact grade_size
      have hst := fun w => grade_store w hC.size hC.one
      have hcs := hC.size
      have HG := Lib.hid hC
      have HC := Lib.hid (And.intro hcl (And.intro hsz (And.intro hnx (And.intro hgo (And.intro hwd (And.intro hrt hge))))))
      have HL2 := Lib.hid hL2
      have hd1 : decide ((k : Int) < (n : Int)) = true := decide_eq_true (by omega)
      clear hL hL2 hnx hC hcl hcl0 hsz e1 hg hmem hge hwd hgo
      go_upto_region 7 with fail
      go_upto_region 8 with (refine wpList_load_cells rfl 46 (.tmp 24) rfl b (o + k * 49) rfl C HC.out.1 _ Tryz.underlying46 rfl HC.out.2.1 ?_)
      clear hst hcs hd1
      refine name_world ?_
      intro W1 hW1
      have X7 : Hid (Bx W1 wr.heap.size 46 C) := Lib.hid (by rw [hW1]; exact Bx.new wr 46 C)
      have B1 : Hid (Below wr.heap.size wr W1) := Lib.hid (by rw [hW1]; exact bnew (ob := .cells C 46) (Below.refl _ _))
      have hBlt := HI.out.1.lt
      obtain ⟨p7, hp7⟩ : ∃ p, wr.heap.size = p := ⟨_, rfl⟩
      rw [hp7] at X7 hBlt ⊢
      clear hW1 hp7
      have GA := HG
      have P0 : Hid (PrS W B p7 C L (100000 * k) W1) := Lib.hid ⟨HI.out.1.keep B1.out, bcall HI.out.2.1 B1.out, X7.out, by omega, hWB, HI.out.2.2⟩
      obtain ⟨kn, hkn⟩ : ∃ kn : Nat, g.kind = (kn : Int) := ⟨g.kind.toNat, by have := hrt.k1; omega⟩
      have hk17 : 1 ≤ kn ∧ kn ≤ 6 := by have h1 := hrt.k1; have h2 := hrt.k6; omega
      obtain ⟨t, ht⟩ : ∃ t, kindW.getD kn ⟨#[]⟩ = t := ⟨_, rfl⟩
      have hC0 : Hid (C[0]? = some (.int .i64 (kn : Int))) := Lib.hid (by rw [← hkn]; exact GA.out.kind)
      have hKt : Hid ((kindW.map Value.string).toArray[kn]? = some (.string t)) := Lib.hid (by
        rw [← ht]
        rcases (by omega : kn = 1 ∨ kn = 2 ∨ kn = 3 ∨ kn = 4 ∨ kn = 5 ∨ kn = 6) with rfl | rfl | rfl | rfl | rfl | rfl <;> rfl)
      have htl : Hid (t = ofL t.data.toList ∧ t.data.toList.length ≤ 300) := Lib.hid ⟨ofL_of rfl, by rw [← Lib.size_eq, ← ht]; exact kindW_len kn⟩
      have HK := Lib.hid (And.intro hkn (And.intro hk17 ht))
      have hnx2 : Hid (L2 = L ++ t.data.toList ++ tlW (bodyW g) ++ [10]) := Lib.hid (by rw [HC.out.2.2.1, hkn]; show _ = L ++ t.data.toList ++ tlW (bodyW g) ++ [10]; rw [← ht]; rfl)
      clear hkn ht hrt
      refine wp_region_inv 6 (fun qz u' => if qz = 0 then True else if qz = 3 then True else if qz = 5 then True else u' = [undef, (.pointer (some ⟨p7, 0, none⟩)), (.int .i64 (kn : Int)), undef, (.string t), undef].getD qz undef) (fun d vs w' => S8 W B p7 C L t.data.toList (100000 * k) 300 kindW kn p7 46 C (d 0) (d 3) (d 4) (d 5) (vs 0) (vs 3) w') (by kernel_rfl) (by kernel_rfl) ?_ ?_ ?_
      · intro vs
        exact S8.keep (w := W1) ⟨fun e => (by cases e), fun e => (by cases e), fun e => (by cases e), fun _ => P0.out, fun e => (by cases e), fun e => (by cases e), fun e => (by cases e), P0.out.x7, (by decide), P0.out.ne⟩ ((Below.refl _ _).drew)
      · intro iq oq hi ho
        rcases (by omega : iq = 0 ∨ iq = 1 ∨ iq = 2 ∨ iq = 3 ∨ iq = 4 ∨ iq = 5) with rfl | rfl | rfl | rfl | rfl | rfl
        all_goals simp only [List.getElem?_cons_zero, List.getElem?_cons_succ, Option.some.injEq] at ho
        all_goals subst ho
        all_goals intro d a0 wx hI hag hdep hun
        · refine inv_call (f := 140) (args := #[]) (run_go_call Tryz.func140 (by kernel_rfl) (by kernel_rfl) _ _ _ _ _ _ _ _ _ _ (by simp [Act.eval])) (fun h => (by cases h)) ?_
          refine (grade_words wx).mono ?_
          rintro e w' ⟨rfl, hx, hb⟩
          exact ⟨_, rfl, trivial, S8.set0 hI hun hb hx⟩
        · have e0 := slot_eq (hag 7 rfl)
          exact inv_val (v := (.pointer (some ⟨p7, 0, none⟩))) (by simp [go_sem, e0]) (fun h => (by cases h)) rfl hI
        · have hq := hI.xb.all.1 0
          rw [hC0.out] at hq
          have e0 := slot_eq (hdep ⟨1, .data⟩ (by simp) rfl).1
          exact inv_val (v := (.int .i64 (kn : Int))) (by simp [go_sem, e0, hq]) (fun h => (by cases h)) rfl hI
        · obtain ⟨g0, hv0, hS⟩ := S8.set3 hI (hdep ⟨0, .data⟩ (by simp) rfl).2 hun
          have e1 := slot_eq hv0
          have e2 := slot_eq (hdep ⟨2, .data⟩ (by simp) rfl).1
          have z7 : (kn : Int) < 7 := by omega
          have hK7 : kindW.length = 7 := rfl
          rw [hK7] at e1
          exact inv_val (v := .pointer (some ⟨g0, kn, none⟩)) (by simp [go_sem, e1, e2, z7]) (fun h => (by cases h)) trivial hS
        · obtain ⟨g0, hv0, hx0, hS⟩ := S8.set4 hI (hdep ⟨3, .data⟩ (by simp) rfl).2 hun
          have e1 := slot_eq hv0
          have hq := hx0.all.1 kn
          rw [hKt.out] at hq
          exact inv_val (v := .string t) (by simp [go_sem, e1, hq]) (fun h => (by cases h)) rfl hS
        · have e0 := slot_eq (hag 5 rfl)
          have e1 := slot_eq (hdep ⟨4, .data⟩ (by simp) rfl).1
          refine inv_call (f := 118) (args := #[.pointer (some ⟨B, 0, none⟩), .string t]) (run_go_call Tryz.func118 (by kernel_rfl) (by kernel_rfl) _ _ _ _ _ _ _ _ _ _ (by simp [Act.eval, e0, e1])) (fun h => (by cases h)) ?_
          refine (pr_write (hI.pr hun) (by omega) t t.data.toList 300 htl.out.1 htl.out.2 (by omega)).mono ?_
          rintro e w' ⟨⟨n5, rfl⟩, hp, ha⟩
          exact ⟨_, rfl, trivial, S8.set5 hI (hdep ⟨4, .data⟩ (by simp) rfl).2 hp ha⟩
      · intro d vs w6 hd hI hA
        have k1 : vs 1 = (.pointer (some ⟨p7, 0, none⟩)) := hA 1 (by omega)
        have k2 : vs 2 = (.int .i64 (kn : Int)) := hA 2 (by omega)
        have k4 : vs 4 = (.string t) := hA 4 (by omega)
        simp only [putAll, dstAt, List.getElem?_toArray, List.getElem?_cons_zero, List.getElem?_cons_succ, Option.bind_some, Option.bind_none, Act.put, List.setIfInBounds_toArray, List.set_cons_zero, List.set_cons_succ, k1, k2, k4]
        have PS0 := Lib.hid (hI.px (hd 5 (by omega)))
        generalize vs 0 = u0 at *
        generalize vs 3 = u3 at *
        generalize vs 5 = u5x at *
        clear hI hA hd k1 k2 k4
        have q0 : w6.cell? ⟨p7, 0, none⟩ = some (.int .i64 (kn : Int)) := by rw [PS0.out.x7.all.1]; exact hC0.out
        rcases (by omega : kn = 1 ∨ kn = 2 ∨ kn = 3 ∨ kn = 4 ∨ kn = 5 ∨ kn = 6) with rfl | rfl | rfl | rfl | rfl | rfl
        · go_wp2_with fail
          refine (pr_put PS0.out HE.out (by omega) ((g.whe.drop 0).take 3) p7 1 3 3 46 C PS0.out.x7 (by decide) PS0.out.ne (sub_len GA.out.whe.1 (by omega)) (sub_get GA.out.whe.2 0 3 (by omega)) (sub_mem HC.out.2.2.2.2.1.whe) (by omega)).mono ?_
          rintro e y1 ⟨rfl, hp1, _⟩
          have PS1 := Lib.hid hp1
          clear hp1
          go_wp2_with fail
          refine (pr_put PS1.out HE.out (by omega) ((g.whe.drop 3).take 3) p7 4 3 3 46 C PS1.out.x7 (by decide) PS1.out.ne (sub_len GA.out.whe.1 (by omega)) (sub_get GA.out.whe.2 3 3 (by omega)) (sub_mem HC.out.2.2.2.2.1.whe) (by omega)).mono ?_
          rintro e y2 ⟨rfl, hp2, _⟩
          have PS2 := Lib.hid hp2
          clear hp2
          go_wp2_with fail
          refine (pr_put PS2.out HE.out (by omega) ((g.whe.drop 6).take 3) p7 7 3 3 46 C PS2.out.x7 (by decide) PS2.out.ne (sub_len GA.out.whe.1 (by omega)) (sub_get GA.out.whe.2 6 3 (by omega)) (sub_mem HC.out.2.2.2.2.1.whe) (by omega)).mono ?_
          rintro e y3 ⟨rfl, hp3, _⟩
          have PS3 := Lib.hid hp3
          clear hp3
          have PSb : Hid (PrS W B p7 C (L ++ t.data.toList ++ tlW (bodyW g)) (100000 * k + 300 + 90000) y3) := Lib.hid (by
            have h := PS3.out
            have e : L ++ t.data.toList ++ tlW (((g.whe.drop 0).take 3).map textF) ++ tlW (((g.whe.drop 3).take 3).map textF) ++ tlW (((g.whe.drop 6).take 3).map textF) = L ++ t.data.toList ++ tlW (g.whe.map textF) := by rw [← parts9 GA.out.whe.1]; simp only [List.append_assoc]
            rw [e] at h
            rw [bodyW_1 HK.out.1]
            exact h.up (by omega))
          go_wp2_with fail
          refine (pr_write PSb.out (by omega) ⟨#[10]⟩ [10] 1 (ofL_of rfl) (by decide) (by omega)).mono ?_
          rintro e w9 ⟨⟨n9, rfl⟩, hp9, _⟩
          have HJ : Hid (BT B L2 w9 ∧ Below W.heap.size W w9 ∧ L2.length ≤ 100000 * (k + 1)) := Lib.hid ⟨by rw [hnx2.out]; exact hp9.bt, hp9.bel, by rw [hnx2.out]; exact Nat.le_trans hp9.len (by omega)⟩
          clear hp9
          go_wp2_with fail
          go_roundw
          case rel => exact ⟨k + 1, by omega, by go_num, Lib.hid (by rw [HL2.out]; exact HJ.out)⟩
          case measure => simp [RowKit.intOf]; omega
        · obtain ⟨sat, hsat⟩ : ∃ x, g.lst.getD 9 0 = x := ⟨_, rfl⟩
          have HSat := Lib.hid hsat
          clear hsat
          go_wp2_with fail
          refine (pr_put PS0.out HE.out (by omega) ((g.lst.drop 0).take 3) p7 10 3 3 46 C PS0.out.x7 (by decide) PS0.out.ne (sub_len GA.out.lst.1 (by omega)) (sub_get GA.out.lst.2 0 3 (by omega)) (sub_mem HC.out.2.2.2.2.1.lst) (by omega)).mono ?_
          rintro e y1 ⟨rfl, hp1, _⟩
          have PS1 := Lib.hid hp1
          clear hp1
          go_wp2_with fail
          refine (pr_put PS1.out HE.out (by omega) ((g.lst.drop 3).take 3) p7 13 3 3 46 C PS1.out.x7 (by decide) PS1.out.ne (sub_len GA.out.lst.1 (by omega)) (sub_get GA.out.lst.2 3 3 (by omega)) (sub_mem HC.out.2.2.2.2.1.lst) (by omega)).mono ?_
          rintro e y2 ⟨rfl, hp2, _⟩
          have PS2 := Lib.hid hp2
          clear hp2
          go_wp2_with fail
          refine (pr_put PS2.out HE.out (by omega) ((g.lst.drop 6).take 3) p7 16 3 3 46 C PS2.out.x7 (by decide) PS2.out.ne (sub_len GA.out.lst.1 (by omega)) (sub_get GA.out.lst.2 6 3 (by omega)) (sub_mem HC.out.2.2.2.2.1.lst) (by omega)).mono ?_
          rintro e y3 ⟨rfl, hp3, _⟩
          have PS3 := Lib.hid hp3
          clear hp3
          have q19 : y3.cell? ⟨p7, 19, none⟩ = some (.float .f32 sat) := by rw [PS3.out.x7.all.1]; exact by rw [← HSat.out]; exact GA.out.lst.2 9 (by omega)
          go_wp2_with fail
          refine (pr_put (PS3.out.keep (bnew (Below.refl _ _))) HE.out (by omega) [sat] y3.heap.size 0 1 1 23 #[.float .f32 sat] (Bx.new _ _ _) (by decide) (by have := PS3.out.bt.lt; omega) rfl (fun i hi => by have h0 : i = 0 := (by omega); subst h0; rfl) (fun x hx => by rw [List.mem_singleton.1 hx, ← HSat.out]; exact HC.out.2.2.2.1.lst 9 (by have := GA.out.lst.1; omega)) (by omega)).mono ?_
          rintro e y4 ⟨rfl, hp4, _⟩
          have PS4 := Lib.hid hp4
          clear hp4
          have PSb : Hid (PrS W B p7 C (L ++ t.data.toList ++ tlW (bodyW g)) (100000 * k + 300 + 90000) y4) := Lib.hid (by
            have h := PS4.out
            have e : L ++ t.data.toList ++ tlW (((g.lst.drop 0).take 3).map textF) ++ tlW (((g.lst.drop 3).take 3).map textF) ++ tlW (((g.lst.drop 6).take 3).map textF) ++ tlW ([sat].map textF) = L ++ t.data.toList ++ tlW (g.lst.map textF) := by rw [← parts10 GA.out.lst.1, HSat.out]; simp only [List.append_assoc]
            rw [e] at h
            rw [bodyW_2 HK.out.1]
            exact h.up (by omega))
          clear q19
          go_wp2_with fail
          refine (pr_write PSb.out (by omega) ⟨#[10]⟩ [10] 1 (ofL_of rfl) (by decide) (by omega)).mono ?_
          rintro e w9 ⟨⟨n9, rfl⟩, hp9, _⟩
          have HJ : Hid (BT B L2 w9 ∧ Below W.heap.size W w9 ∧ L2.length ≤ 100000 * (k + 1)) := Lib.hid ⟨by rw [hnx2.out]; exact hp9.bt, hp9.bel, by rw [hnx2.out]; exact Nat.le_trans hp9.len (by omega)⟩
          clear hp9
          go_wp2_with fail
          go_roundw
          case rel => exact ⟨k + 1, by omega, by go_num, Lib.hid (by rw [HL2.out]; exact HJ.out)⟩
          case measure => simp [RowKit.intOf]; omega
        · obtain ⟨hD1, hD2⟩ := part_cells PS0.out.x7 20 12 (by rw [GA.out.size]; omega)
          have HD := Lib.hid (And.intro hD1 hD2)
          clear hD1 hD2
          go_wp2_with (refine wpList_load_cells rfl 40 (.tmp 77) rfl p7 20 rfl (C.extract 20 (20 + 12)) HD.out.2 _ Tryz.underlying40 rfl (by rw [HD.out.1]; exact size_c4) ?_)
          obtain ⟨Dx, hD⟩ : ∃ D, C.extract 20 (20 + 12) = D := ⟨_, rfl⟩
          rw [hD]
          have HDe := Lib.hid hD
          clear hD q0
          go_loopw [79] (fun i wr => ∃ j : Nat, j ≤ 4 ∧ i = .int .i64 (j : Int) ∧ Hid (PrS W B p7 C (L ++ t.data.toList ++ tlW ((g.cvs.take j).flatMap cvW)) (100000 * k + 300 + 20000 * j) wr)) (fun i _ => 4 - (RowKit.intOf i).toNat)
          case atStart => exact ⟨0, by omega, rfl, Lib.hid (by simpa [tlW] using PS0.out)⟩
          case round =>
            obtain ⟨j, hj, rfl, PJ⟩ := hrel
            by_cases hlj : j < 4
            · obtain ⟨c3, hc3⟩ : ∃ c3, g.cvs[j]? = some c3 := ⟨_, List.getElem?_eq_getElem (by have := GA.out.cvs.1; omega)⟩
              have hcm := List.mem_of_getElem? hc3
              obtain ⟨vx, vy, e3, slx, sly⟩ := GA.out.cv hc3
              rw [HDe.out] at e3
              have hcv := HC.out.2.2.2.1.cvs c3 hcm
              have hhp := hasP_iff HC.out.2.2.2.2.2.2 hcm
              have HLX3 := Lib.hid hc3
              have hd2 : decide ((j : Int) < 4) = true := decide_eq_true (by omega)
              obtain ⟨D3, hD3⟩ : ∃ D3, (#[Value.int .i64 c3.kind, vx, vy] : Array Value) = D3 := ⟨_, rfl⟩
              obtain ⟨ax, cx0, hvx⟩ := slx.sl
              obtain ⟨ay, cy0, hvy⟩ := sly.sl
              have hone : D3.all (·.oneCell') = true := by rw [← hD3, hvx, hvy]; simp [Value.oneCell']
              have hcs : D3.size = 3 := by rw [← hD3]; rfl
              have hst := fun w => curve_store w hcs hone
              rw [hD3] at e3
              have HE3 := Lib.hid (And.intro e3 (And.intro hD3 (And.intro slx (And.intro sly (And.intro hvx (And.intro hvy hcv))))))
              clear hc3 hcm hone e3 slx sly hD3 hcv
              go_upto_region 23 with fail
              go_upto_region 24 with (refine wpList_index_cv rfl (.tmp 78) (.tmp 79) rfl rfl rfl hlj HE3.out.1 ?_)
              clear hst hcs
              refine name_world ?_
              intro W3 hW3
              have X10 : Hid (Bx W3 wr.heap.size 39 D3) := Lib.hid (by rw [hW3]; exact Bx.new wr _ D3)
              have PJ0 : Hid (PrS W B p7 C (L ++ t.data.toList ++ tlW ((g.cvs.take j).flatMap cvW)) (100000 * k + 300 + 20000 * j) W3) := Lib.hid (PJ.out.keep (by rw [hW3]; exact bnew (ob := .cells D3 39) (Below.refl _ _)))
              have hneB : wr.heap.size ≠ B := by have := PJ.out.bt.lt; omega
              obtain ⟨p10, hp10⟩ : ∃ p, wr.heap.size = p := ⟨_, rfl⟩
              rw [hp10] at X10 hneB ⊢
              clear hW3 hp10
              obtain ⟨nx, hnx⟩ : ∃ n, c3.xs.length = n := ⟨_, rfl⟩
              have hny : c3.ys.length = nx := by rw [← HE3.out.2.2.2.2.2.2.1, hnx]
              rw [hnx] at hvx
              rw [hny] at hvy
              have hnx32 : nx ≤ 32 := by rw [← hnx]; exact HE3.out.2.2.2.2.2.2.2.1
              have hD3' : D3 = #[Value.int .i64 c3.kind, .slice ax nx cx0, .slice ay nx cy0] := by rw [← HE3.out.2.1, hvx, hvy]
              rw [hD3'] at X10
              have HLX := Lib.hid (And.intro hnx hny)
              have HNX := Lib.hid hnx32
              have HCV := Lib.hid HE3.out.2.2.2.2.2.2
              clear hD3' hhp hnx32
              have r0 := X10.out.all.1 0
              have r1 := X10.out.all.1 1
              have r2 := X10.out.all.1 2
              simp only [List.getElem?_toArray, List.getElem?_cons_zero, List.getElem?_cons_succ] at r0 r1 r2
              obtain ⟨ckI, hckI⟩ : ∃ z, c3.kind = z := ⟨_, rfl⟩
              rw [hckI] at r0 X10
              have HCKI := Lib.hid hckI
              clear hckI
              by_cases h0 : nx = 0
              · subst h0
                have hxn : c3.xs = [] := List.length_eq_zero_iff.1 hnx
                have HXN := Lib.hid hxn
                clear hnx hny hvx hvy hxn
                go_wp2_with fail
                refine (grade_hasPoints _ _ _ _ _ _ _ _).mono ?_
                rintro e z1 ⟨rfl, hz1⟩
                rw [show (decide (0 < 0) || decide (0 < 0)) = false from rfl]
                have PJ1 := Lib.hid (PJ0.out.keep hz1)
                clear hz1 r0 r1 r2
                go_wp2_with fail
                refine (pr_write PJ1.out (by omega) ⟨#[32, 45]⟩ [32, 45] 400 (ofL_of rfl) (by decide) (by omega)).mono ?_
                rintro e z2 ⟨⟨n5, rfl⟩, hp2, _⟩
                have PE : Hid (PrS W B p7 C (L ++ t.data.toList ++ tlW ((g.cvs.take (j + 1)).flatMap cvW)) (100000 * k + 300 + 20000 * (j + 1)) z2) := Lib.hid (by
                  rw [List.take_add_one, HLX3.out, List.flatMap_append, tlW_append, ← List.append_assoc]
                  have h := hp2.up (N' := 100000 * k + 300 + 20000 * (j + 1)) (by omega)
                  have e : tlW ([c3].flatMap cvW) = [32, 45] := by
                    rw [List.flatMap_singleton, cvW_none HXN.out]
                    rfl
                  show PrS W B p7 C (L ++ t.data.toList ++ tlW ((g.cvs.take j).flatMap cvW) ++ tlW ([c3].flatMap cvW)) _ _
                  rw [e]
                  exact h)
                clear hp2
                go_wp2_with fail
                go_roundw
                case rel => exact ⟨j + 1, by omega, by go_num, PE⟩
                case measure => simp [RowKit.intOf]; omega
              · have hne : c3.xs ≠ [] := fun e => h0 (by rw [← hnx, e]; rfl)
                have hneY : c3.ys ≠ [] := fun e => h0 (by rw [← hny, e]; rfl)
                obtain ⟨bx, ox, cx, hax, hrx⟩ : ∃ bx ox cx, vx = .slice (some ⟨bx, ox, none⟩) c3.xs.length cx ∧ Rd W bx ox c3.xs := by
                  rcases HE3.out.2.2.1 with ⟨b1, o1, c1, h1, _, h3⟩ | ⟨h1, _⟩
                  · exact ⟨b1, o1, c1, h1, h3⟩
                  · exact absurd h1 hne
                obtain ⟨bv, oy, cy, hay, hry⟩ : ∃ bv oy cy, vy = .slice (some ⟨bv, oy, none⟩) c3.ys.length cy ∧ Rd W bv oy c3.ys := by
                  rcases HE3.out.2.2.2.1 with ⟨b1, o1, c1, h1, _, h3⟩ | ⟨h1, _⟩
                  · exact ⟨b1, o1, c1, h1, h3⟩
                  · exact absurd h1 hneY
                rw [hnx, hvx] at hax
                rw [hny, hvy] at hay
                obtain ⟨rfl, rfl⟩ : ax = some ⟨bx, ox, none⟩ ∧ cx = cx0 := by cases hax; exact ⟨rfl, rfl⟩
                obtain ⟨rfl, rfl⟩ : ay = some ⟨bv, oy, none⟩ ∧ cy = cy0 := by cases hay; exact ⟨rfl, rfl⟩
                have HRX := Lib.hid hrx
                have HRY := Lib.hid hry
                obtain ⟨ck, hck⟩ : ∃ ck : Nat, (ck = 1 ∨ ck = 2) ∧ ckI = (ck : Int) := by
                  rcases HCV.out.2.2.1 (by rw [HLX.out.1]; exact h0) with h | h
                  · exact ⟨1, .inl rfl, by rw [← HCKI.out, h]; rfl⟩
                  · exact ⟨2, .inr rfl, by rw [← HCKI.out, h]; rfl⟩
                obtain ⟨hck12, rfl⟩ := hck
                obtain ⟨wd, hwd⟩ : ∃ wd, curveP.getD ck ⟨#[]⟩ = wd := ⟨_, rfl⟩
                have HCK : Hid (ck < 3 ∧ (curveP.map Value.string).toArray[ck]? = some (.string wd) ∧ wd.size ≤ 20 ∧ cvW c3 = [curveW.getD ck ⟨#[]⟩, itoaB (nx : Int)] ++ pairW c3.xs c3.ys nx) := Lib.hid (by
                  refine ⟨by omega, ?_, ?_, ?_⟩
                  · rw [← hwd]; rcases hck12 with rfl | rfl <;> rfl
                  · rw [← hwd]; rcases hck12 with rfl | rfl <;> decide
                  · rw [cvW_some (c := c3) (by rw [HLX.out.1]; exact h0) HCKI.out rfl, HLX.out.1])
                have HTL : Hid (tlW [curveW.getD ck ⟨#[]⟩, itoaB (nx : Int)] = wd.data.toList ++ (itoaB (nx : Int)).data.toList) := Lib.hid (by
                  rw [← hwd]
                  rcases hck12 with rfl | rfl <;> simp [tlW, curveW, curveP])
                clear hvx hvy hax hay hrx hry hne hneY hck12 hwd hnx hny
                have hpos : 0 < nx := by omega
                go_wp2_with fail
                refine (grade_hasPoints _ _ _ _ _ _ _ _).mono ?_
                rintro e z1 ⟨rfl, hz1⟩
                rw [show (decide (0 < nx) || decide (0 < nx)) = true by rw [decide_eq_true hpos]; rfl]
                have PJ1 := Lib.hid (PJ0.out.keep hz1)
                have X10b := Lib.hid (X10.out.keep hz1)
                clear hz1 r0 r1 r2
                go_upto_region 26 with fail
                refine wp_region_inv 11 (fun qz u' => if qz = 0 then True else if qz = 3 then True else if qz = 10 then True else u' = [undef, (.pointer (some ⟨p10, 0, none⟩)), (.int .i64 (ck : Int)), undef, (.string wd), (.pointer (some ⟨p10, 1, none⟩)), (.slice (some ⟨bx, ox, none⟩) nx cx), (.int .i64 (nx : Int)), (.string (itoaB (nx : Int))), (.string (wd ++ itoaB (nx : Int))), undef].getD qz undef) (fun d vs w' => S8 W B p7 C (L ++ t.data.toList ++ tlW ((g.cvs.take j).flatMap cvW)) (wd.data.toList ++ (itoaB (nx : Int)).data.toList) (100000 * k + 300 + 20000 * j) 400 curveP ck p10 39 #[Value.int .i64 (ck : Int), .slice (some ⟨bx, ox, none⟩) nx cx, .slice (some ⟨bv, oy, none⟩) nx cy] (d 0) (d 3) (d 4) (d 10) (vs 0) (vs 3) w' ∧ (d 9 = true → d 4 = true)) (by kernel_rfl) (by kernel_rfl) ?_ ?_ ?_
                · intro vs
                  exact ⟨S8.keep (w := z1) ⟨fun e => (by cases e), fun e => (by cases e), fun e => (by cases e), fun _ => PJ1.out, fun e => (by cases e), fun e => (by cases e), fun e => (by cases e), X10b.out, (by decide), hneB⟩ ((Below.refl _ _).drew), fun e => (by cases e)⟩
                · intro iq oq hi ho
                  rcases (by omega : iq = 0 ∨ iq = 1 ∨ iq = 2 ∨ iq = 3 ∨ iq = 4 ∨ iq = 5 ∨ iq = 6 ∨ iq = 7 ∨ iq = 8 ∨ iq = 9 ∨ iq = 10) with rfl | rfl | rfl | rfl | rfl | rfl | rfl | rfl | rfl | rfl | rfl
                  all_goals simp only [List.getElem?_cons_zero, List.getElem?_cons_succ, Option.some.injEq] at ho
                  all_goals subst ho
                  all_goals intro d a0 wx hI hag hdep hun
                  · exact inv_val (v := .slice (some ⟨wx.heap.size, 0, none⟩) 3 3) (w' := wx.alloc (.cells #[.string ⟨#[]⟩, .string ⟨#[32, 108, 105, 110, 101, 97, 114, 32]⟩, .string ⟨#[32, 115, 109, 111, 111, 116, 104, 32]⟩] 9)) (by simp [go_sem]) (fun h => (by cases h)) trivial ⟨S8.set0 hI.1 hun (bnew (Below.refl _ _)) (by rw [curveP_arr]; exact Bx.new _ _ _), hI.2⟩
                  · have e0 := slot_eq (hag 10 rfl)
                    exact inv_val (v := (.pointer (some ⟨p10, 0, none⟩))) (by simp [go_sem, e0]) (fun h => (by cases h)) rfl hI
                  · have hq := hI.1.xb.all.1 0
                    simp only [List.getElem?_toArray, List.getElem?_cons_zero, List.getElem?_cons_succ] at hq
                    have e0 := slot_eq (hdep ⟨1, .data⟩ (by simp) rfl).1
                    exact inv_val (v := (.int .i64 (ck : Int))) (by simp [go_sem, e0, hq]) (fun h => (by cases h)) rfl hI
                  · obtain ⟨g0, hv0, hS⟩ := S8.set3 hI.1 (hdep ⟨0, .data⟩ (by simp) rfl).2 hun
                    have e0 := slot_eq hv0
                    have e1 := slot_eq (hdep ⟨2, .data⟩ (by simp) rfl).1
                    have z3 : (ck : Int) < 3 := by have := HCK.out.1; omega
                    have hK3 : curveP.length = 3 := rfl
                    rw [hK3] at e0
                    exact inv_val (v := .pointer (some ⟨g0, ck, none⟩)) (by simp [go_sem, e0, e1, z3]) (fun h => (by cases h)) trivial ⟨hS, hI.2⟩
                  · obtain ⟨g0, hv0, hx0, hS⟩ := S8.set4 hI.1 (hdep ⟨3, .data⟩ (by simp) rfl).2 hun
                    have e0 := slot_eq hv0
                    have hq := hx0.all.1 ck
                    rw [HCK.out.2.1] at hq
                    exact inv_val (v := .string wd) (by simp [go_sem, e0, hq]) (fun h => (by cases h)) rfl ⟨hS, fun _ => rfl⟩
                  · have e0 := slot_eq (hag 10 rfl)
                    exact inv_val (v := (.pointer (some ⟨p10, 1, none⟩))) (by simp [go_sem, e0]) (fun h => (by cases h)) rfl hI
                  · have hq := hI.1.xb.all.1 1
                    simp only [List.getElem?_toArray, List.getElem?_cons_zero, List.getElem?_cons_succ] at hq
                    have e0 := slot_eq (hdep ⟨5, .data⟩ (by simp) rfl).1
                    exact inv_val (v := (.slice (some ⟨bx, ox, none⟩) nx cx)) (by simp [go_sem, e0, hq]) (fun h => (by cases h)) rfl hI
                  · have e0 := slot_eq (hdep ⟨6, .data⟩ (by simp) rfl).1
                    exact inv_val (v := (.int .i64 (nx : Int))) (by simp [go_sem, e0]) (fun h => (by cases h)) rfl hI
                  · have e0 := slot_eq (hdep ⟨7, .data⟩ (by simp) rfl).1
                    refine inv_call (f := 78) (args := #[.int .i64 (nx : Int)]) (run_go_call Tryz.func78 (by kernel_rfl) (by kernel_rfl) _ _ _ _ _ _ _ _ _ _ (by simp [Act.eval, e0])) (fun h => (by cases h)) ?_
                    refine (sc_Itoa (nx : Int) (by have := HNX.out; omega) wx (HE.out.below hI.1.bel)).mono ?_
                    rintro e w' ⟨rfl, hb⟩
                    exact ⟨_, rfl, rfl, hI.1.keep hb, hI.2⟩
                  · have e0 := slot_eq (hdep ⟨4, .data⟩ (by simp) rfl).1
                    have e1 := slot_eq (hdep ⟨8, .data⟩ (by simp) rfl).1
                    exact inv_val (v := .string (wd ++ itoaB (nx : Int))) (run_catG rfl (by simp [Act.eval, e0]) (by simp [Act.eval, e1]) (by have := HCK.out.2.2.1; have := itoaB_len (nx : Int) (by have := HNX.out; omega); omega)) (fun h => (by cases h)) rfl ⟨hI.1, fun _ => (hdep ⟨4, .data⟩ (by simp) rfl).2⟩
                  · have e0 := slot_eq (hag 5 rfl)
                    have e1 := slot_eq (hdep ⟨9, .data⟩ (by simp) rfl).1
                    refine inv_call (f := 118) (args := #[.pointer (some ⟨B, 0, none⟩), .string (wd ++ itoaB (nx : Int))]) (run_go_call Tryz.func118 (by kernel_rfl) (by kernel_rfl) _ _ _ _ _ _ _ _ _ _ (by simp [Act.eval, e0, e1])) (fun h => (by cases h)) ?_
                    refine (pr_write (hI.1.pr hun) (by omega) (wd ++ itoaB (nx : Int)) (wd.data.toList ++ (itoaB (nx : Int)).data.toList) 400 (ofL_of (by rw [ByteArray.data_append, Array.toList_append])) (by have := HCK.out.2.2.1; have := itoaB_len (nx : Int) (by have := HNX.out; omega); rw [List.length_append, ← Lib.size_eq, ← Lib.size_eq]; omega) (by omega)).mono ?_
                    rintro e w' ⟨⟨n5, rfl⟩, hp, ha⟩
                    exact ⟨_, rfl, trivial, S8.set5 hI.1 (hI.2 (hdep ⟨9, .data⟩ (by simp) rfl).2) hp ha, hI.2⟩
                · intro d vs w6 hd hI hA
                  have k1 : vs 1 = (.pointer (some ⟨p10, 0, none⟩)) := hA 1 (by omega)
                  have k2 : vs 2 = (.int .i64 (ck : Int)) := hA 2 (by omega)
                  have k4 : vs 4 = (.string wd) := hA 4 (by omega)
                  have k5 : vs 5 = (.pointer (some ⟨p10, 1, none⟩)) := hA 5 (by omega)
                  have k6 : vs 6 = (.slice (some ⟨bx, ox, none⟩) nx cx) := hA 6 (by omega)
                  have k7 : vs 7 = (.int .i64 (nx : Int)) := hA 7 (by omega)
                  have k8 : vs 8 = (.string (itoaB (nx : Int))) := hA 8 (by omega)
                  have k9 : vs 9 = (.string (wd ++ itoaB (nx : Int))) := hA 9 (by omega)
                  simp only [putAll, dstAt, List.getElem?_toArray, List.getElem?_cons_zero, List.getElem?_cons_succ, Option.bind_some, Option.bind_none, Act.put, List.setIfInBounds_toArray, List.set_cons_zero, List.set_cons_succ, k1, k2, k4, k5, k6, k7, k8, k9]
                  have PS26 := Lib.hid (hI.1.px (hd 10 (by omega)))
                  have X10c := Lib.hid hI.1.xb
                  generalize vs 0 = u0y at *
                  generalize vs 3 = u3y at *
                  generalize vs 10 = u10y at *
                  clear hI hA hd k1 k2 k4 k5 k6 k7 k8 k9
                  have r1 := X10c.out.all.1 1
                  simp only [List.getElem?_toArray, List.getElem?_cons_zero, List.getElem?_cons_succ] at r1
                  have hnx32b := HNX.out
                  go_wp2_with fail
                  go_loopw [100] (fun i wr => ∃ q : Nat, q ≤ nx ∧ i = .int .i64 (q : Int) ∧ Hid (PrS W B p7 C (L ++ t.data.toList ++ tlW ((g.cvs.take j).flatMap cvW) ++ (wd.data.toList ++ (itoaB (nx : Int)).data.toList) ++ tlW (pairW c3.xs c3.ys q)) (100000 * k + 300 + 20000 * j + 400 + 602 * q) wr ∧ Bx wr p10 39 #[Value.int .i64 (ck : Int), .slice (some ⟨bx, ox, none⟩) nx cx, .slice (some ⟨bv, oy, none⟩) nx cy])) (fun i _ => nx - (RowKit.intOf i).toNat)
                  case atStart => exact ⟨0, Nat.zero_le _, rfl, Lib.hid ⟨by simpa [tlW, pairW] using PS26.out, X10c.out⟩⟩
                  case round =>
                    obtain ⟨q, hq, rfl, HQ⟩ := hrel
                    by_cases hlq : q < nx
                    · obtain ⟨x, hx⟩ : ∃ x, c3.xs.getD q 0 = x := ⟨_, rfl⟩
                      obtain ⟨y, hy⟩ : ∃ y, c3.ys.getD q 0 = y := ⟨_, rfl⟩
                      have rx : wr.cell? ⟨bx, ox + q, none⟩ = some (.float .f32 x) := by rw [← hx]; exact cell_belowF HQ.out.1.bel (HRX.out.cell q (by rw [HLX.out.1]; exact hlq))
                      have ry : wr.cell? ⟨bv, oy + q, none⟩ = some (.float .f32 y) := by rw [← hy]; exact cell_belowF HQ.out.1.bel (HRY.out.cell q (by rw [HLX.out.2]; exact hlq))
                      have r2 := HQ.out.2.all.1 2
                      simp only [List.getElem?_toArray, List.getElem?_cons_zero, List.getElem?_cons_succ] at r2
                      have hxw : x < 4294967296 := by rw [← hx]; exact HCV.out.2.2.2.1 q (by rw [HLX.out.1]; exact hlq)
                      have hyw : y < 4294967296 := by rw [← hy]; exact HCV.out.2.2.2.2 q (by rw [HLX.out.2]; exact hlq)
                      have HXY := Lib.hid (And.intro hx (And.intro hy (And.intro hxw hyw)))
                      have hqn : (q : Int) < (nx : Int) := by omega
                      have hd3 : decide ((q : Int) < (nx : Int)) = true := decide_eq_true hqn
                      clear hx hy hxw hyw
                      go_wp2_with fail
                      refine (pr_put (HQ.out.1.keep (bnew (Below.refl _ _))) HE.out (by have := HNX.out; omega) [x, y] wr.heap.size 0 2 2 23 #[.float .f32 x, .float .f32 y] (Bx.new _ _ _) (by decide) (by have := HQ.out.1.bt.lt; omega) rfl (fun i hi => by rcases (by omega : i = 0 ∨ i = 1) with rfl | rfl <;> rfl) (fun z hz => by rcases List.mem_cons.1 hz with rfl | hz2; exact HXY.out.2.2.1; rw [List.mem_singleton.1 hz2]; exact HXY.out.2.2.2) (by omega)).mono ?_
                      rintro e z5 ⟨rfl, hp5, ha5⟩
                      have HQ5 : Hid (PrS W B p7 C (L ++ t.data.toList ++ tlW ((g.cvs.take j).flatMap cvW) ++ (wd.data.toList ++ (itoaB (nx : Int)).data.toList) ++ tlW (pairW c3.xs c3.ys (q + 1))) (100000 * k + 300 + 20000 * j + 400 + 602 * (q + 1)) z5 ∧ Bx z5 p10 39 #[Value.int .i64 (ck : Int), .slice (some ⟨bx, ox, none⟩) nx cx, .slice (some ⟨bv, oy, none⟩) nx cy]) := Lib.hid ⟨by
                        rw [pairW_succ, HXY.out.1, HXY.out.2.1, tlW_append, ← List.append_assoc]
                        exact hp5.up (by omega), ha5 p10 39 _ (by decide) hneB (HQ.out.2.alloc _)⟩
                      clear hp5 ha5 rx ry r2
                      go_wp2_with fail
                      go_roundw
                      case rel => exact ⟨q + 1, by omega, by go_num, HQ5⟩
                      case measure => simp [RowKit.intOf]; omega
                    · obtain rfl : nx = q := by omega
                      have PE : Hid (PrS W B p7 C (L ++ t.data.toList ++ tlW ((g.cvs.take (j + 1)).flatMap cvW)) (100000 * k + 300 + 20000 * (j + 1)) wr) := Lib.hid (by
                        rw [List.take_add_one, HLX3.out, List.flatMap_append, tlW_append, ← List.append_assoc]
                        have h := HQ.out.1.up (N' := 100000 * k + 300 + 20000 * (j + 1)) (by have := HNX.out; omega)
                        have e : tlW ([c3].flatMap cvW) = (wd.data.toList ++ (itoaB (nx : Int)).data.toList) ++ tlW (pairW c3.xs c3.ys nx) := by
                          rw [List.flatMap_singleton, HCK.out.2.2.2, tlW_append, HTL.out]
                        show PrS W B p7 C (L ++ t.data.toList ++ tlW ((g.cvs.take j).flatMap cvW) ++ tlW ([c3].flatMap cvW)) _ _
                        rw [e, ← List.append_assoc]
                        exact h)
                      clear r1
                      go_wp2_with fail
                      go_roundw
                      case rel => exact ⟨j + 1, by omega, by go_num, PE⟩
                      case measure => simp [RowKit.intOf]; omega
            · obtain rfl : j = 4 := by omega
              have PSb : Hid (PrS W B p7 C (L ++ t.data.toList ++ tlW (bodyW g)) (100000 * k + 300 + 90000) wr) := Lib.hid (by
                have h := PJ.out
                rw [show g.cvs.take 4 = g.cvs by rw [← GA.out.cvs.1, List.take_length]] at h
                rw [bodyW_3 HK.out.1]
                exact h.up (by omega))
              go_wp2_with fail
              refine (pr_write PSb.out (by omega) ⟨#[10]⟩ [10] 1 (ofL_of rfl) (by decide) (by omega)).mono ?_
              rintro e w9 ⟨⟨n9, rfl⟩, hp9, _⟩
              have HJ : Hid (BT B L2 w9 ∧ Below W.heap.size W w9 ∧ L2.length ≤ 100000 * (k + 1)) := Lib.hid ⟨by rw [hnx2.out]; exact hp9.bt, hp9.bel, by rw [hnx2.out]; exact Nat.le_trans hp9.len (by omega)⟩
              clear hp9
              go_wp2_with fail
              go_roundw
              case rel => exact ⟨k + 1, by omega, by go_num, Lib.hid (by rw [HL2.out]; exact HJ.out)⟩
              case measure => simp [RowKit.intOf]; omega
        · go_wp2_with fail
          refine (pr_put PS0.out HE.out (by omega) (g.mix) p7 32 12 12 46 C PS0.out.x7 (by decide) PS0.out.ne (GA.out.mix.1) (GA.out.mix.2) (HC.out.2.2.2.2.1.mix) (by omega)).mono ?_
          rintro e y1 ⟨rfl, hp1, _⟩
          have PS1 := Lib.hid hp1
          clear hp1
          have PSb : Hid (PrS W B p7 C (L ++ t.data.toList ++ tlW (bodyW g)) (100000 * k + 300 + 90000) y1) := Lib.hid (by
            have h := PS1.out
            skip
            rw [bodyW_4 HK.out.1]
            exact h.up (by omega))
          go_wp2_with fail
          refine (pr_write PSb.out (by omega) ⟨#[10]⟩ [10] 1 (ofL_of rfl) (by decide) (by omega)).mono ?_
          rintro e w9 ⟨⟨n9, rfl⟩, hp9, _⟩
          have HJ : Hid (BT B L2 w9 ∧ Below W.heap.size W w9 ∧ L2.length ≤ 100000 * (k + 1)) := Lib.hid ⟨by rw [hnx2.out]; exact hp9.bt, hp9.bel, by rw [hnx2.out]; exact Nat.le_trans hp9.len (by omega)⟩
          clear hp9
          go_wp2_with fail
          go_roundw
          case rel => exact ⟨k + 1, by omega, by go_num, Lib.hid (by rw [HL2.out]; exact HJ.out)⟩
          case measure => simp [RowKit.intOf]; omega
        · have q44 : w6.cell? ⟨p7, 44, none⟩ = some (.float .f32 g.piv) := by rw [PS0.out.x7.all.1]; exact GA.out.piv
          have q45 : w6.cell? ⟨p7, 45, none⟩ = some (.float .f32 g.amt) := by rw [PS0.out.x7.all.1]; exact GA.out.amt
          go_wp2_with fail
          refine (pr_put (PS0.out.keep (bnew (Below.refl _ _))) HE.out (by omega) [g.piv, g.amt] w6.heap.size 0 2 2 23 #[.float .f32 g.piv, .float .f32 g.amt] (Bx.new _ _ _) (by decide) (by have := PS0.out.bt.lt; omega) rfl (fun i hi => by rcases (by omega : i = 0 ∨ i = 1) with rfl | rfl <;> rfl) (fun x hx => by rcases List.mem_cons.1 hx with rfl | hx2; exact HC.out.2.2.2.1.piv; rw [List.mem_singleton.1 hx2]; exact HC.out.2.2.2.1.amt) (by omega)).mono ?_
          rintro e y1 ⟨rfl, hp1, _⟩
          have PS1 := Lib.hid hp1
          clear hp1
          have PSb : Hid (PrS W B p7 C (L ++ t.data.toList ++ tlW (bodyW g)) (100000 * k + 300 + 90000) y1) := Lib.hid (by
            have h := PS1.out
            skip
            rw [bodyW_5 HK.out.1]
            exact h.up (by omega))
          clear q44 q45
          go_wp2_with fail
          refine (pr_write PSb.out (by omega) ⟨#[10]⟩ [10] 1 (ofL_of rfl) (by decide) (by omega)).mono ?_
          rintro e w9 ⟨⟨n9, rfl⟩, hp9, _⟩
          have HJ : Hid (BT B L2 w9 ∧ Below W.heap.size W w9 ∧ L2.length ≤ 100000 * (k + 1)) := Lib.hid ⟨by rw [hnx2.out]; exact hp9.bt, hp9.bel, by rw [hnx2.out]; exact Nat.le_trans hp9.len (by omega)⟩
          clear hp9
          go_wp2_with fail
          go_roundw
          case rel => exact ⟨k + 1, by omega, by go_num, Lib.hid (by rw [HL2.out]; exact HJ.out)⟩
          case measure => simp [RowKit.intOf]; omega
        · obtain ⟨hD1, hD2⟩ := part_cells PS0.out.x7 46 3 (by rw [GA.out.size]; omega)
          have HD := Lib.hid (And.intro hD1 hD2)
          clear hD1 hD2
          go_wp2_with (refine wpList_load_cells rfl 44 (.tmp 134) rfl p7 46 rfl (C.extract 46 (46 + 3)) HD.out.2 _ Tryz.underlying44 rfl (by rw [HD.out.1]; exact size_i3) ?_)
          obtain ⟨D, hD⟩ : ∃ D, C.extract 46 (46 + 3) = D := ⟨_, rfl⟩
          rw [hD]
          have HDe := Lib.hid hD
          clear hD q0
          go_loopw [136] (fun i wr => ∃ j : Nat, j ≤ 3 ∧ i = .int .i64 (j : Int) ∧ Hid (PrS W B p7 C (L ++ t.data.toList ++ tlW ((g.pts.take j).map itoaB)) (100000 * k + 300 + 400 * j) wr)) (fun i _ => 3 - (RowKit.intOf i).toNat)
          case atStart => exact ⟨0, by omega, rfl, Lib.hid (by simpa [tlW] using PS0.out)⟩
          case round =>
            obtain ⟨j, hj, rfl, PJ⟩ := hrel
            by_cases hlj : j < 3
            · obtain ⟨x, hxj⟩ : ∃ x, g.pts[j]? = some x := ⟨_, List.getElem?_eq_getElem (by have := GA.out.pts.1; omega)⟩
              have hgx : g.pts.getD j 0 = x := by rw [List.getD_eq_getElem?_getD, hxj]; rfl
              have hx5 := HC.out.2.2.2.1.pts j hlj
              rw [hgx] at hx5
              have hDx : D[j]? = some (.int .i64 x) := by
                rw [← HDe.out, Array.getElem?_extract, if_pos (by rw [GA.out.size]; omega), GA.out.pts.2 j hlj, hgx]
              have HDX := Lib.hid (And.intro hDx (And.intro hxj hx5))
              have hd2 : decide ((j : Int) < 3) = true := decide_eq_true (by omega)
              clear hDx hxj hgx hx5
              go_wp2_with (refine wpList_index_pt rfl (.tmp 135) (.tmp 136) rfl rfl rfl hlj HDX.out.1 ?_)
              refine (sc_Itoa x (by have := HDX.out.2.2; omega) _ (HE.out.below PJ.out.bel)).mono ?_
              rintro e z2 ⟨rfl, hz2⟩
              have PJ2 := Lib.hid (PJ.out.keep hz2)
              clear hz2
              have hts := itoaB_len x (by have := HDX.out.2.2; omega)
              obtain ⟨S, hS⟩ : ∃ S, (⟨#[32]⟩ : ByteArray) ++ itoaB x = S := ⟨_, rfl⟩
              have HSx : Hid (S = ofL (32 :: (itoaB x).data.toList) ∧ (32 :: (itoaB x).data.toList).length ≤ 400) := Lib.hid ⟨by rw [← hS]; exact ofL_of (by rw [ByteArray.data_append, Array.toList_append]; rfl), by rw [List.length_cons, ← Lib.size_eq]; omega⟩
              have hcat : ((⟨#[32]⟩ : ByteArray).size + (itoaB x).size) ≤ 1000000000000 := by show 1 + _ ≤ _; omega
              go_wp2_with (refine wpList_cat rfl rfl rfl rfl hcat ?_)
              try rw [hS]
              refine (pr_write PJ2.out (by omega) S (32 :: (itoaB x).data.toList) 400 HSx.out.1 HSx.out.2 (by omega)).mono ?_
              rintro e z3 ⟨⟨n5, rfl⟩, hp3, _⟩
              have PJ3 : Hid (PrS W B p7 C (L ++ t.data.toList ++ tlW ((g.pts.take (j + 1)).map itoaB)) (100000 * k + 300 + 400 * (j + 1)) z3) := Lib.hid (by
                rw [List.take_add_one, HDX.out.2.1, List.map_append, tlW_append, ← List.append_assoc]
                have h := hp3.up (N' := 100000 * k + 300 + 400 * (j + 1)) (by omega)
                simpa [tlW] using h)
              clear hp3 hS
              go_wp2_with fail
              go_roundw
              case rel => exact ⟨j + 1, by omega, by go_num, PJ3⟩
              case measure => simp [RowKit.intOf]; omega
            · obtain rfl : j = 3 := by omega
              have PSb : Hid (PrS W B p7 C (L ++ t.data.toList ++ tlW (bodyW g)) (100000 * k + 300 + 90000) wr) := Lib.hid (by
                have h := PJ.out
                rw [show g.pts.take 3 = g.pts by rw [← GA.out.pts.1, List.take_length]] at h
                rw [bodyW_6 HK.out.1]
                exact h.up (by omega))
              go_wp2_with fail
              refine (pr_write PSb.out (by omega) ⟨#[10]⟩ [10] 1 (ofL_of rfl) (by decide) (by omega)).mono ?_
              rintro e w9 ⟨⟨n9, rfl⟩, hp9, _⟩
              have HJ : Hid (BT B L2 w9 ∧ Below W.heap.size W w9 ∧ L2.length ≤ 100000 * (k + 1)) := Lib.hid ⟨by rw [hnx2.out]; exact hp9.bt, hp9.bel, by rw [hnx2.out]; exact Nat.le_trans hp9.len (by omega)⟩
              clear hp9
              go_wp2_with fail
              go_roundw
              case rel => exact ⟨k + 1, by omega, by go_num, Lib.hid (by rw [HL2.out]; exact HJ.out)⟩
              case measure => simp [RowKit.intOf]; omega
    · obtain rfl : k = n := by omega
      have HF : Hid (BT B (linesG gs).data.toList wr ∧ Below W.heap.size W wr) := Lib.hid (by have := HI.out; rw [show gs.take k = gs by rw [← HN.out, List.take_length]] at this; exact ⟨this.1, this.2.1⟩)
      have hle := HF.out.1.lt
      go_wp2_with fail
      refine (Tryz.Builder_String_any B B (linesG gs).data.toList _ HF.out.1 (Nat.le_of_lt hle)).mono ?_
      rintro e w9 ⟨rfl, hb9⟩
      have HB9 : Hid (Below W.heap.size W w9) := Lib.hid (HF.out.2.trans (hb9.mono hWB))
      clear hb9
      go_wp2_with fail
      go_ret2
      exact ⟨by simp, HB9.out⟩
end Go.Proofs.YticekgnmiaidjaaGreatDoor
