/- grade.Print under way. (printed by gen_lkb.py) -/
import Derived.Test.YticekgnmiaidjaaGreatDoorTfA
import Derived.Test.YticekgnmiaidjaaGreatDoorGrU
import Derived.Test.YticekgnmiaidjaaGreatDoorGlS
import Derived.Test.YticekgnmiaidjaaGreatDoorGdw
import Derived.Test.YticekgnmiaidjaaGreatDoorNuE
namespace Go.Proofs.YticekgnmiaidjaaGreatDoor

section
open Go.RowKit Go.Lib

set_option maxRecDepth 100000 in
set_option maxHeartbeats 4000000 in
theorem num_Text (x : Nat) (hx : x < 4294967296) (W : World) (E : EnvF W) :
    Calls Tryz.prog 142 #[.float .f32 x] W fun e w' => e = .returned (.string (textF x)) ∧ Below W.heap.size W w' := by
  have HE := Lib.hid E
  clear E
  have h2 := order_max x
  have h3 := order_min x
  cases hr : rd x with
  | nan a b =>
    have h1 : (FloatKind.f32.format.order x x != some .eq) = true := by
      show ((rd x).order (rd x) != some .eq) = true
      rw [hr]; rfl
    have ht : textF x = ⟨#[110, 97, 110]⟩ := by unfold textF; rw [hr]
    rw [ht]
    clear hr ht h2 h3
    go_enter Tryz.func142, Tryz.ntmps142
    go_wp2_with fail
    go_ret
    exact ⟨rfl, Below.refl _ _⟩
  | infinity s =>
    have h1 : (FloatKind.f32.format.order x x != some .eq) = false := by
      show ((rd x).order (rd x) != some .eq) = false
      rw [hr]; cases s <;> rfl
    rw [hr] at h2 h3
    cases s
    · have ht : textF x = ⟨#[105, 110, 102]⟩ := by unfold textF; rw [hr]
      rw [ht]
      simp only at h2 h3
      clear hr ht
      go_enter Tryz.func142, Tryz.ntmps142
      go_wp2_with fail
      go_ret
      exact ⟨rfl, Below.refl _ _⟩
    · have ht : textF x = ⟨#[45, 105, 110, 102]⟩ := by unfold textF; rw [hr]
      rw [ht]
      simp only at h2 h3
      clear hr ht
      go_enter Tryz.func142, Tryz.ntmps142
      go_wp2_with fail
      go_ret
      exact ⟨rfl, Below.refl _ _⟩
  | number s m i =>
    have hf := num_exN hr
    obtain ⟨y, hy1, hy2⟩ := wide_back hx hf
    have h1 : (FloatKind.f32.format.order x x != some .eq) = false := by
      show ((rd x).order (rd x) != some .eq) = false
      rw [hr]; simp [Ieee.Datum.order]
    rw [hr] at h2 h3
    simp only at h2 h3
    have KF := Lib.hid (fun w (h : EnvF w) => sc_FormatFloat x y hx hf hy2 w h)
    have c1 := fun w => run_convert_float_float (P := Tryz.prog) w 23 153 .f32 .f64 x y (by kernel_rfl) Tryz.underlying153 hy1
    have ht : textF x = strOfNums (ftoaT x) := by unfold textF; rw [hr]
    rw [ht]
    clear hr ht hf hy1 hy2
    go_enter Tryz.func142, Tryz.ntmps142
    go_wp2_with fail
    refine (KF.out _ HE.out).mono ?_
    rintro e w1 ⟨rfl, b1⟩
    have HB := Lib.hid b1
    clear b1
    go_wp2_with fail
    go_ret
    exact ⟨rfl, HB.out⟩
set_option maxRecDepth 100000 in
theorem grade_words (W : World) : Calls Tryz.prog 140 #[] W fun e w' => e = .returned (.slice (some ⟨W.heap.size, 0, none⟩) 7 7) ∧ Bx w' W.heap.size 9 (kindW.map Value.string).toArray ∧ Below W.heap.size W w' := by
  go_enter Tryz.func140, Tryz.ntmps140
  go_wp2_with fail
  go_ret
  exact ⟨rfl, Bx.new _ _ _, bnew (Below.refl _ _)⟩

/-- Writing s to a builder that holds l, up to 2^47 bytes. -/
theorem bt_put (B : Nat) (l s : List UInt8) (S : ByteArray) (w : World) (hS : S = ofL s) (h : BT B l w) (hl : l.length + s.length ≤ 140737488355328) : Calls Tryz.prog 118 #[.pointer (some ⟨B, 0, none⟩), .string S] w fun e w' => (∃ n, e = .returned (.tuple #[.int .i64 n, .nilIface])) ∧ BT B (l ++ s) w' ∧ Below B w w' ∧ Apart B w w' := by
  subst hS
  refine (bld_writeX B B _ (ofL s) w h (by rw [Lib.byteCells_length, ofL_size]; omega) (Nat.le_of_lt h.lt)).mono ?_
  rintro e w' ⟨rfl, ⟨h2, hb⟩, ha⟩
  refine ⟨⟨_, rfl⟩, .inr ?_, hb, ha⟩
  rw [Lib.strCells_eq, ofL_list, ← Lib.byteCells_append] at h2
  exact h2
/-- Words, each with a space ahead. -/
def tlW (ws : List ByteArray) : List UInt8 := ws.flatMap fun w => 32 :: w.data.toList
theorem tlW_append (a b : List ByteArray) : tlW (a ++ b) = tlW a ++ tlW b := List.flatMap_append
theorem tlW_len : ∀ {ws : List ByteArray}, (∀ w ∈ ws, w.size ≤ 300) → (tlW ws).length ≤ 301 * ws.length
  | [], _ => Nat.le_refl _
  | w :: ws, h => by
    have h1 := h w (List.mem_cons_self ..)
    have h2 := tlW_len (ws := ws) fun x hx => h x (List.mem_cons_of_mem _ hx)
    have h3 : w.data.toList.length = w.size := (Lib.size_eq w).symm
    rw [tlW, List.flatMap_cons, ← tlW, List.length_append, List.length_cons, List.length_cons]
    omega
theorem icat (a b : List UInt8) (l : List (List UInt8)) : [32].intercalate (a :: b :: l) = a ++ ([32] ++ [32].intercalate (b :: l)) := by
  simp [List.intercalate, List.intersperse]
theorem spaced_tl (w : ByteArray) : ∀ (ws : List ByteArray), (spaced (w :: ws)).data.toList = w.data.toList ++ tlW ws := by
  intro ws
  have key : ∀ (w : ByteArray) (ws : List ByteArray), Lib.join ((w :: ws).map (·.data.toList)) [32] = w.data.toList ++ tlW ws := by
    intro w ws
    induction ws generalizing w with
    | nil => simp [Lib.join, tlW]
    | cons v ws ih =>
      have := ih v
      rw [List.map_cons] at this
      rw [List.map_cons, List.map_cons]
      unfold Lib.join at *
      rw [icat, this, tlW, tlW, List.flatMap_cons]
      simp
  unfold spaced
  rw [List.toList_toArray, key]
theorem line_tl (g : Gd) : (lineG g).data.toList = (kindW.getD g.kind.toNat ⟨#[]⟩).data.toList ++ tlW (bodyW g) ++ [10] := by
  unfold lineG wordsG
  rw [← spaced_tl]
  show ((spaced _) ++ (⟨#[10]⟩ : ByteArray)).data.toList = _
  rw [ByteArray.data_append, Array.toList_append]

/-- What writing leaves: the builder with more in it, older memory, blocks of other types. -/
def Wrote (B : Nat) (l : List UInt8) (w w' : World) : Prop := BT B l w' ∧ Below B w w' ∧ Apart B w w'
theorem apart_of {B : Nat} {w w' : World} (h : Below w.heap.size w w') : Apart B w w' := fun _ _ _ _ _ x => x.keep h
theorem Apart.trans {B : Nat} {a b c : World} (h : Apart B a b) (k : Apart B b c) : Apart B a c := fun g T cs hT hg x => k g T cs hT hg (h g T cs hT hg x)
set_option maxRecDepth 100000 in
set_option maxHeartbeats 4000000 in
theorem print_put (xs : List Nat) (B q o n c : Nat) (T : TypeId) (cs : Array Value) (l : List UInt8) (W0 w : World) (E : EnvF W0) (hb : Below W0.heap.size W0 w) (hB : W0.heap.size ≤ B) (h : BT B l w) (hq : Bx w q T cs) (hT : T ≠ 5) (hqB : q ≠ B)
    (hl : xs.length = n) (hc : ∀ i, i < n → cs[o + i]? = some (.float .f32 (xs.getD i 0))) (hx : ∀ x ∈ xs, x < 4294967296) (hn : n ≤ 100000) (hsz : l.length ≤ 100000000000) :
    Calls Tryz.prog 141 #[.slice (some ⟨q, o, none⟩) n c, .pointer (some ⟨B, 0, none⟩)] w fun e w' => e = .returned (.tuple #[]) ∧ Wrote B (l ++ tlW (xs.map textF)) w w' := by
  have HE := Lib.hid E
  have HH := Lib.hid (And.intro hb (And.intro hB (And.intro h (And.intro hq (And.intro hT hqB)))))
  have HX := Lib.hid (And.intro hl (And.intro hc (And.intro hx hsz)))
  clear E hb hB h hq hT hqB hl hc hx hsz
  go_enter Tryz.func141, Tryz.ntmps141
  go_wp2_with fail
  go_loopw [7] (fun i wr => ∃ k : Nat, k ≤ n ∧ i = .int .i64 (k : Int) ∧ Hid (Wrote B (l ++ tlW ((xs.take k).map textF)) w wr)) (fun i _ => n - (RowKit.intOf i).toNat)
  case atStart => exact ⟨0, Nat.zero_le _, rfl, Lib.hid ⟨by simpa [tlW] using HH.out.2.2.1, Below.refl _ _, fun _ _ _ _ _ x => x⟩⟩
  case round =>
    obtain ⟨k, hk, rfl, HI⟩ := hrel
    by_cases hlt : k < n
    · have hkl : k < xs.length := by rw [HX.out.1]; exact hlt
      obtain ⟨x, hxk⟩ : ∃ x, xs[k]? = some x := ⟨_, List.getElem?_eq_getElem hkl⟩
      have hgd : xs.getD k 0 = x := by rw [List.getD_eq_getElem?_getD, hxk]; rfl
      have hcl : wr.cell? ⟨q, o + k, none⟩ = some (.float .f32 x) := by
        rw [(HI.out.2.2 q T cs HH.out.2.2.2.2.1 HH.out.2.2.2.2.2 HH.out.2.2.2.1).all.1, HX.out.2.1 k hlt, hgd]
      have hxw := HX.out.2.2.1 x (List.mem_of_getElem? hxk)
      have HB0 : Hid (Below W0.heap.size W0 wr) := Lib.hid (HH.out.1.trans (HI.out.2.1.mono HH.out.2.1))
      have hlen : (tlW ((xs.take k).map textF)).length ≤ 301 * k := by
        refine Nat.le_trans (tlW_len fun w hw => ?_) ?_
        · obtain ⟨y, _, rfl⟩ := List.mem_map.1 hw
          exact textF_len y
        · rw [List.length_map, List.length_take]; omega
      have HX2 := Lib.hid (And.intro hxk (And.intro hxw hlen))
      have hd1 : decide ((k : Int) < (n : Int)) = true := decide_eq_true (by omega)
      have hts := textF_len x
      clear hxk hgd hxw hlen hkl
      go_wp2_with fail
      refine (num_Text x HX2.out.2.1 _ (HE.out.below HB0.out)).mono ?_
      rintro e w2 ⟨rfl, hb2⟩
      have HW2 : Hid (BT B (l ++ tlW ((xs.take k).map textF)) w2 ∧ Below B w w2 ∧ Apart B w w2) := Lib.hid ⟨HI.out.1.keep hb2, HI.out.2.1.trans (hb2.mono (Nat.le_of_lt HI.out.1.lt)), HI.out.2.2.trans (apart_of hb2)⟩
      clear hb2 hcl
      obtain ⟨S, hS⟩ : ∃ S, (⟨#[32]⟩ : ByteArray) ++ textF x = S := ⟨_, rfl⟩
      have HS : Hid (S = ofL (32 :: (textF x).data.toList) ∧ (textF x).size ≤ 300) := Lib.hid ⟨by rw [← hS]; exact ofL_of (by rw [ByteArray.data_append, Array.toList_append]; rfl), hts⟩
      have hcat : ((⟨#[32]⟩ : ByteArray).size + (textF x).size) ≤ 1000000000000 := by show 1 + _ ≤ _; omega
      go_wp2_with (refine wpList_cat rfl rfl rfl rfl hcat ?_)
      try rw [hS]
      refine (bt_put B (l ++ tlW ((xs.take k).map textF)) (32 :: (textF x).data.toList) S _ HS.out.1 HW2.out.1 (by
        have h1 := HX2.out.2.2
        have h2 := HX.out.2.2.2
        have h3 : (textF x).data.toList.length = (textF x).size := (Lib.size_eq _).symm
        have h4 := HS.out.2
        rw [List.length_append, List.length_cons]; omega)).mono ?_
      rintro e w3 ⟨⟨m, rfl⟩, h5, h6, h7⟩
      have HJ : Hid (Wrote B (l ++ tlW ((xs.take (k + 1)).map textF)) w w3) := Lib.hid ⟨by
        rw [List.take_add_one, HX2.out.1, List.map_append, tlW_append, ← List.append_assoc]
        simpa [tlW] using h5, HW2.out.2.1.trans h6, HW2.out.2.2.trans h7⟩
      clear h5 h6 h7 hS
      go_wp2_with fail
      go_roundw
      case rel => exact ⟨k + 1, by omega, by go_num, HJ⟩
      case measure => simp [RowKit.intOf]; omega
    · obtain rfl : k = n := by omega
      have HJ : Hid (Wrote B (l ++ tlW (xs.map textF)) w wr) := Lib.hid (by have := HI.out; rw [show xs.take k = xs by rw [← HX.out.1, List.take_length]] at this; exact this)
      go_wp2_with fail
      go_end0
      exact ⟨rfl, HJ.out⟩
end

section
open Go.RowKit Go.Lib

/-- The builder in the block B holds l (at most N bytes); the grade's cells C lie in the block p7; older memory is as it was. -/
structure PrS (W : World) (B p7 : Nat) (C : Array Value) (l : List UInt8) (N : Nat) (w : World) : Prop where
  bt : BT B l w
  bel : Below W.heap.size W w
  x7 : Bx w p7 46 C
  ne : p7 ≠ B
  le : W.heap.size ≤ B
  len : l.length ≤ N
theorem PrS.keep {W : World} {B p7 : Nat} {C : Array Value} {l : List UInt8} {N : Nat} {w w' : World} (h : PrS W B p7 C l N w) (hb : Below w.heap.size w w') : PrS W B p7 C l N w' :=
  ⟨h.bt.keep hb, bcall h.bel hb, h.x7.keep hb, h.ne, h.le, h.len⟩
theorem PrS.wrote {W : World} {B p7 : Nat} {C : Array Value} {l s : List UInt8} {N m : Nat} {w w' : World} (h : PrS W B p7 C l N w) (k : Wrote B (l ++ s) w w') (hs : s.length ≤ m) : PrS W B p7 C (l ++ s) (N + m) w' :=
  ⟨k.1, h.bel.trans (k.2.1.mono h.le), k.2.2 p7 46 C (by decide) h.ne h.x7, h.ne, h.le, by rw [List.length_append]; have := h.len; omega⟩
theorem tl_map_len {xs : List Nat} {n : Nat} (h : xs.length = n) : (tlW (xs.map textF)).length ≤ 301 * n := by
  rw [← h]
  refine Nat.le_trans (tlW_len fun w hw => ?_) (by rw [List.length_map]; exact Nat.le_refl _)
  obtain ⟨y, _, rfl⟩ := List.mem_map.1 hw
  exact textF_len y
theorem pr_put {W : World} {B p7 : Nat} {C : Array Value} {l : List UInt8} {N : Nat} {w : World} (h : PrS W B p7 C l N w) (E : EnvF W) (hN : N ≤ 100000000000) (xs : List Nat) (q o n c : Nat) (T : TypeId) (cs : Array Value) (hq : Bx w q T cs) (hT : T ≠ 5) (hqB : q ≠ B)
    (hl : xs.length = n) (hc : ∀ i, i < n → cs[o + i]? = some (.float .f32 (xs.getD i 0))) (hx : ∀ x ∈ xs, x < 4294967296) (hn : n ≤ 100000) :
    Calls Tryz.prog 141 #[.slice (some ⟨q, o, none⟩) n c, .pointer (some ⟨B, 0, none⟩)] w fun e w' => e = .returned (.tuple #[]) ∧ PrS W B p7 C (l ++ tlW (xs.map textF)) (N + 301 * n) w' ∧ Apart B w w' := by
  refine (print_put xs B q o n c T cs l W w E h.bel h.le h.bt hq hT hqB hl hc hx hn (Nat.le_trans h.len hN)).mono ?_
  rintro e w' ⟨rfl, hw⟩
  exact ⟨rfl, h.wrote hw (tl_map_len hl), hw.2.2⟩
theorem pr_write {W : World} {B p7 : Nat} {C : Array Value} {l : List UInt8} {N : Nat} {w : World} (h : PrS W B p7 C l N w) (hN : N ≤ 100000000000) (S : ByteArray) (s : List UInt8) (m : Nat) (hS : S = ofL s) (hm : s.length ≤ m) (hmb : m ≤ 1000000) :
    Calls Tryz.prog 118 #[.pointer (some ⟨B, 0, none⟩), .string S] w fun e w' => (∃ n, e = .returned (.tuple #[.int .i64 n, .nilIface])) ∧ PrS W B p7 C (l ++ s) (N + m) w' ∧ Apart B w w' := by
  refine (bt_put B l s S w hS h.bt (by have := h.len; omega)).mono ?_
  rintro e w' ⟨he, hw⟩
  exact ⟨he, h.wrote hw hm, hw.2.2⟩
/-- The text of the first grades, as bytes. -/
theorem linesG_tl {gs : List Gd} {k : Nat} {g : Gd} (h : gs[k]? = some g) : (linesG (gs.take (k + 1))).data.toList = (linesG (gs.take k)).data.toList ++ (kindW.getD g.kind.toNat ⟨#[]⟩).data.toList ++ tlW (bodyW g) ++ [10] := by
  rw [linesG_next h, ByteArray.data_append, Array.toList_append, line_tl]
  simp only [List.append_assoc]
end
end Go.Proofs.YticekgnmiaidjaaGreatDoor
