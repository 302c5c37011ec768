/- conform.cloned: grades in new memory. (printed by gen_lkf.py) -/
import Derived.Test.YticekgnmiaidjaaGreatDoorNuO
import Derived.Test.YticekgnmiaidjaaGreatDoorGdw
import Derived.Test.YticekgnmiaidjaaGreatDoorGnF
namespace Go.Proofs.YticekgnmiaidjaaGreatDoor
open Go.RowKit Go.Lib

theorem cellsG_put : ∀ {Cs : List (Array Value)}, (∀ C ∈ Cs, C.size = 49) → ∀ (i : Nat) (C : Array Value), Cs[i]? = some C → ∀ (j : Nat) (v : Value), j < 49 → (cellsG Cs).set (i * 49 + j) v = cellsG (Cs.set i (C.setIfInBounds j v))
  | [], _, i, C, hi, _, _, _ => by simp at hi
  | D :: Cs, h, 0, C, hi, j, v, hj => by
    have : D = C := by simpa using hi
    subst this
    have hl : D.toList.length = 49 := by simpa using h D (List.mem_cons_self ..)
    rw [List.set_cons_zero, cellsG_cons, cellsG_cons, Nat.zero_mul, Nat.zero_add, List.set_append_left _ _ (by omega), Array.toList_setIfInBounds]
  | D :: Cs, h, i + 1, C, hi, j, v, hj => by
    have hl : D.toList.length = 49 := by simpa using h D (List.mem_cons_self ..)
    have ih := cellsG_put (Cs := Cs) (fun E hE => h E (List.mem_cons_of_mem _ hE)) i C (by simpa using hi) j v hj
    rw [List.set_cons_succ, cellsG_cons, cellsG_cons, ← ih, List.set_append_right _ _ (by omega), hl, show (i + 1) * 49 + j - 49 = i * 49 + j by omega]
theorem ext_at {C : Array Value} (hs : C.size = 49) {j m : Nat} (hj : j < 4) (hm : m < 3) : ((C.extract 20 (20 + 12)).extract (j * 3) (j * 3 + 3))[m]? = C[20 + j * 3 + m]? := by
  rw [Array.getElem?_extract, if_pos (by rw [Array.size_extract, hs]; omega), Array.getElem?_extract, if_pos (by rw [hs]; omega), Nat.add_assoc]
/-- One cell of the i-th grade stored over. -/
theorem RwX.put {w w' : World} {p : Nat} {X : List GX} {R : List Value} (h : RwX w p X R) {i : Nat} {x : GX} (hi : X[i]? = some x) {j j' m m' : Nat} {u v : Value} (hj : j < 49) (hj' : j' < 49) (hm : m = i * 49 + j) (hm' : m' = i * 49 + j')
    (hx : Bx w' p 46 (((cellsG (csX X) ++ R).toArray.setIfInBounds m u).setIfInBounds m' v)) : RwX w' p (X.set i ((x.1.setIfInBounds j u).setIfInBounds j' v, x.2)) R := by
  have hil := (List.getElem?_eq_some_iff.1 hi).1
  have hlc : (csX X).length = X.length := by simp [csX]
  have hc : (csX X)[i]? = some x.1 := by simp [csX, hi]
  refine ⟨?_, fun y hy => ?_⟩
  · subst hm hm'
    rw [List.setIfInBounds_toArray, List.setIfInBounds_toArray, List.set_append_left _ _ (by rw [h.len]; omega), cellsG_put h.szC i x.1 hc j u hj] at hx
    have hsz2 : ∀ C ∈ (csX X).set i (x.1.setIfInBounds j u), C.size = 49 := fun C hC => by
      rcases List.mem_or_eq_of_mem_set hC with hC | rfl
      · exact h.szC C hC
      · rw [Array.size_setIfInBounds]; exact h.sz x (List.mem_of_getElem? hi)
    rw [List.set_append_left _ _ (by rw [cellsG_len hsz2, List.length_set, hlc]; omega), cellsG_put hsz2 i (x.1.setIfInBounds j u) (by rw [List.getElem?_set_self (by omega)]) j' v hj', List.set_set] at hx
    simpa [csX, List.map_set] using hx
  · rcases List.mem_or_eq_of_mem_set hy with hy | rfl
    · exact h.sz y hy
    · simp [h.sz x (List.mem_of_getElem? hi)]
/-- The two slices of a curve stored over by slices that read alike. -/
theorem GdAt.put2 {w : World} {C : Array Value} {g : Gd} {j : Nat} {c : Cv} {u v : Value} (h : GdAt w C g) (hj : j < 4) (hc : g.cvs[j]? = some c) (hu : Sl w u c.xs) (hv : Sl w v c.ys) : GdAt w ((C.setIfInBounds (cvC (2 * j)) u).setIfInBounds (cvC (2 * j + 1)) v) g := by
  have hs := h.size
  have e1 : cvC (2 * j) = 21 + 3 * j := by unfold cvC; omega
  have e2 : cvC (2 * j + 1) = 22 + 3 * j := by unfold cvC; omega
  rw [e1, e2]
  have k : ∀ i, i ≠ 21 + 3 * j → i ≠ 22 + 3 * j → ((C.setIfInBounds (21 + 3 * j) u).setIfInBounds (22 + 3 * j) v)[i]? = C[i]? := fun i h1 h2 => by
    rw [Array.getElem?_setIfInBounds_ne (Ne.symm h2), Array.getElem?_setIfInBounds_ne (Ne.symm h1)]
  have o1 : u.oneCell' = true := by obtain ⟨_, _, _, rfl⟩ := hu.form; simp [Value.oneCell']
  have o2 : v.oneCell' = true := by obtain ⟨_, _, _, rfl⟩ := hv.form; simp [Value.oneCell']
  refine ⟨by simp [hs], all_set (all_set h.one o1) o2, by rw [k 0 (by omega) (by omega)]; exact h.kind, ⟨h.whe.1, fun i hi => by rw [k _ (by omega) (by omega)]; exact h.whe.2 i hi⟩, ⟨h.lst.1, fun i hi => by rw [k _ (by omega) (by omega)]; exact h.lst.2 i hi⟩, ⟨h.cvs.1, fun i cc hcc => ?_⟩, ⟨h.mix.1, fun i hi => by rw [k _ (by omega) (by omega)]; exact h.mix.2 i hi⟩, by rw [k _ (by omega) (by omega)]; exact h.piv, by rw [k _ (by omega) (by omega)]; exact h.amt, ⟨h.pts.1, fun i hi => by rw [k _ (by omega) (by omega)]; exact h.pts.2 i hi⟩⟩
  obtain ⟨a1, a2, a3⟩ := h.cvs.2 i cc hcc
  by_cases hij : i = j
  · subst hij
    rw [hc] at hcc
    obtain rfl := Option.some.inj hcc
    refine ⟨by rw [k _ (by omega) (by omega)]; exact a1, ⟨u, ?_, hu⟩, v, ?_, hv⟩
    · rw [Array.getElem?_setIfInBounds_ne (by omega), Array.getElem?_setIfInBounds_self_of_lt (by omega)]
    · rw [Array.getElem?_setIfInBounds_self_of_lt (by simp; omega)]
  · refine ⟨by rw [k _ (by omega) (by omega)]; exact a1, ?_, ?_⟩
    · rw [k _ (by omega) (by omega)]; exact a2
    · rw [k _ (by omega) (by omega)]; exact a3
theorem ownB_used {w : World} {B : Nat} {v : Value} {xs : List Nat} (h : OwF B w v xs) {b : Nat} (hb : usedB v = some b) : B ≤ b := (h.own (usedB_own hb)).1
theorem OkX.put2 {W2 w6 : World} {p i j : Nat} {Z : List GX} {x : GX} {c : Cv} {u v : Value} (h : OkX w6 p Z) (hi : Z[i]? = some x) (hj : j < 4) (hc : x.2.cvs[j]? = some c) (hu : OwF W2.heap.size w6 u c.xs) (hv : OwF W2.heap.size w6 v c.ys) (hp : p < W2.heap.size) :
    OkX w6 p (Z.set i ((x.1.setIfInBounds (cvC (2 * j)) u).setIfInBounds (cvC (2 * j + 1)) v, x.2)) := fun y hy => by
  rcases List.mem_or_eq_of_mem_set hy with hy | rfl
  · exact h y hy
  · obtain ⟨h1, h2, h3⟩ := h x (List.mem_of_getElem? hi)
    refine ⟨h1.put2 hj hc hu.sl hv.sl, h2, fun q t hq ht b hb => ?_⟩
    have hne : cvC (2 * j) ≠ cvC (2 * j + 1) := fun h => by have := cvC_inj h; omega
    have hs := h1.size
    by_cases e1 : q = 2 * j + 1
    · subst e1
      rw [Array.getElem?_setIfInBounds_self_of_lt (by rw [Array.size_setIfInBounds, hs]; unfold cvC; omega)] at ht
      rw [← Option.some.inj ht] at hb
      have := ownB_used hv hb
      omega
    · rw [Array.getElem?_setIfInBounds_ne (fun h => by have := cvC_inj h; omega)] at ht
      by_cases e2 : q = 2 * j
      · subst e2
        rw [Array.getElem?_setIfInBounds_self_of_lt (by rw [hs]; unfold cvC; omega)] at ht
        rw [← Option.some.inj ht] at hb
        have := ownB_used hu hb
        omega
      · rw [Array.getElem?_setIfInBounds_ne (fun h => by have := cvC_inj h; omega)] at ht
        exact h3 q t hq ht b hb
theorem gsX_set {Z : List GX} {i : Nat} {x : GX} (h : Z[i]? = some x) (C : Array Value) : gsX (Z.set i (C, x.2)) = gsX Z := by
  unfold gsX
  rw [List.map_set]
  apply List.ext_getElem?
  intro k
  by_cases hk : i = k
  · subst hk
    rw [List.getElem?_set_self (by have := (List.getElem?_eq_some_iff.1 h).1; simpa using this)]
    simp [h]
  · rw [List.getElem?_set_ne hk]
theorem gsX_len {X : List GX} {gs : List Gd} (h : gsX X = gs) : X.length = gs.length := by rw [← h]; simp [gsX]
theorem gsX_get {X : List GX} {gs : List Gd} (h : gsX X = gs) {k : Nat} {g : Gd} (hg : gs[k]? = some g) : ∃ x, X[k]? = some x ∧ x.2 = g := by
  rw [← h, gsX, List.getElem?_map] at hg
  cases e : X[k]? with
  | none => rw [e] at hg; cases hg
  | some x => rw [e] at hg; exact ⟨x, rfl, by simpa using hg⟩
/-- The slice has the grades gs, and all that makes them lies in the blocks from lo up to hi. -/
def SlGi (lo hi : Nat) (w : World) (v : Value) (gs : List Gd) : Prop := ∀ w' : World, (∀ b, lo ≤ b → b < hi → w'.heap[b]? = w.heap[b]?) → SlG w' v gs
theorem SlGi.sl {lo hi : Nat} {w : World} {v : Value} {gs : List Gd} (h : SlGi lo hi w v gs) : SlG w v gs := h w fun _ _ _ => rfl
theorem SlGi.at {lo hi : Nat} {w w' : World} {v : Value} {gs : List Gd} (h : SlGi lo hi w v gs) (hb : ∀ b, lo ≤ b → b < hi → w'.heap[b]? = w.heap[b]?) : SlGi lo hi w' v gs := fun w2 h2 => h w2 fun b h3 h4 => (h2 b h3 h4).trans (hb b h3 h4)
theorem SlGi.nil (lo hi : Nat) (w : World) : SlGi lo hi w (.slice none 0 0) [] := fun _ _ => ⟨none, 0, rfl, Nat.zero_le _, Nat.zero_le _, .inl rfl⟩
/-- The rows ahead of i, and the first m slices of row i, lie behind lo. -/
def NwX (lo : Nat) (Z : List GX) (i m : Nat) : Prop := ∀ (k : Nat) (x : GX), Z[k]? = some x → ∀ (q : Nat) (v : Value), q < 8 → (k < i ∨ (k = i ∧ q < m)) → x.1[cvC q]? = some v → ∀ b, usedB v = some b → lo ≤ b
theorem NwX.next {lo : Nat} {Z : List GX} {i : Nat} (h : NwX lo Z i 8) : NwX lo Z (i + 1) 0 := fun k x hk q v hq ho hv b hb => h k x hk q v hq (by omega) hv b hb
theorem NwX.put2 {lo : Nat} {Z : List GX} {i j : Nat} {y : GX} {u v : Value} (h : NwX lo Z i (2 * j)) (hy : Z[i]? = some y) (hs : y.1.size = 49) (hj : j < 4) (hu : ∀ b, usedB u = some b → lo ≤ b) (hv : ∀ b, usedB v = some b → lo ≤ b) :
    NwX lo (Z.set i ((y.1.setIfInBounds (cvC (2 * j)) u).setIfInBounds (cvC (2 * j + 1)) v, y.2)) i (2 * (j + 1)) := fun k x hk q t hq ho ht b hb => by
  by_cases hki : i = k
  · subst hki
    rw [List.getElem?_set_self (List.getElem?_eq_some_iff.1 hy).1] at hk
    obtain rfl := Option.some.inj hk
    by_cases e1 : q = 2 * j + 1
    · subst e1
      rw [Array.getElem?_setIfInBounds_self_of_lt (by rw [Array.size_setIfInBounds, hs]; unfold cvC; omega)] at ht
      rw [← Option.some.inj ht] at hb
      exact hv b hb
    · rw [Array.getElem?_setIfInBounds_ne (fun h => by have := cvC_inj h; omega)] at ht
      by_cases e2 : q = 2 * j
      · subst e2
        rw [Array.getElem?_setIfInBounds_self_of_lt (by rw [hs]; unfold cvC; omega)] at ht
        rw [← Option.some.inj ht] at hb
        exact hu b hb
      · rw [Array.getElem?_setIfInBounds_ne (fun h => by have := cvC_inj h; omega)] at ht
        exact h i y hy q t hq (by omega) ht b hb
  · rw [List.getElem?_set_ne hki] at hk
    exact h k x hk q t hq (by omega) ht b hb
set_option maxRecDepth 100000 in
set_option maxHeartbeats 32000000 in
theorem conform_cloned (v : Value) (gs : List Gd) (W : World) (h : SlG W v gs) (hr : ∀ g ∈ gs, gradeErr g = 0) (hn : gs.length ≤ 1000) : Calls Tryz.prog 57 #[v] W fun e w' => ∃ v', e = .returned v' ∧ SlGi W.heap.size w'.heap.size w' v' gs ∧ Below W.heap.size W w' := by
  obtain ⟨a0, c0, rfl, hc1, hc2, hr0⟩ : ∃ a c, v = .slice a gs.length c ∧ gs.length ≤ c ∧ c ≤ maxLen ∧ SlG W (.slice a gs.length c) gs := by
    obtain ⟨a, c, h1, h2, h3, h4⟩ := h
    exact ⟨a, c, h1, h2, h3, a, c, rfl, h2, h3, h4⟩
  have H0 := Lib.hid (And.intro hr0 hr)
  clear h hr hr0
  go_enter Tryz.func57, Tryz.ntmps57
  go_wp2_with fail
  refine (sl_CloneG _ gs _ H0.out.1 hn).mono ?_
  rintro e w1 ⟨v2, X, rfl, hX, hown, hgd, hb⟩
  have hlen : gs.length = X.length := by rw [← hX]; simp [gsX]
  rcases hown.own.2 with ⟨rfl, h0⟩ | ⟨p, c, cur, rfl, hp, hx, hnc, hcm, hsz, htake⟩
  · have hgs : gs = [] := List.length_eq_zero_iff.1 h0
    have HB := Lib.hid (And.intro hb hgs)
    clear hown hgd hb hX hlen h0 hgs
    go_wp2_with fail
    go_loopw [12] (fun i wr => i = .int .i64 0 ∧ wr = w1) (fun _ _ => 0)
    case atStart => exact ⟨rfl, by trivial⟩
    case round =>
      obtain ⟨rfl, rfl⟩ := hrel
      go_wp2_with fail
      go_ret
      refine ⟨_, rfl, ?_, HB.out.1⟩
      rw [HB.out.2]
      exact SlGi.nil _ _ _
  · obtain ⟨n, hn'⟩ : ∃ n, gs.length = n := ⟨_, rfl⟩
    rw [hn'] at hnc htake hn hlen
    try rw [hn']
    have hR : RwX w1 p X (cur.toList.drop (X.length * 49)) := by
      refine ⟨?_, fun x hx => (hgd x hx).size⟩
      have e : (cellsG (csX X) ++ cur.toList.drop (X.length * 49)).toArray = cur := by
        rw [← hlen, ← htake, List.take_append_drop, Array.toArray_toList]
      rw [e]
      exact hx
    have hok : OkX w1 p X := fun x hx => by
      refine ⟨(hgd x hx).keep hb, H0.out.2 _ (by rw [← hX]; exact List.mem_map.2 ⟨x, hx, rfl⟩), fun q v hq hv b hbb => ?_⟩
      have := (hgd x hx).old hq hv hbb
      omega
    obtain ⟨R, hRe⟩ : ∃ R, cur.toList.drop (X.length * 49) = R := ⟨_, rfl⟩
    rw [hRe] at hR
    have HR := Lib.hid (And.intro hR (And.intro hok (And.intro hX (And.intro hn' (And.intro hb (And.intro hp (And.intro hnc hcm)))))))
    clear hown hgd hb hX hR hok hRe htake hsz hx hlen hn' hp hnc hcm
    go_wp2_with fail
    go_loopw [12] (fun iv wr => ∃ (i : Nat) (Y : List GX), i ≤ n ∧ iv = .int .i64 (i : Int) ∧ Hid (RwX wr p Y R ∧ OkX wr p Y ∧ gsX Y = gs ∧ Kx p w1 wr ∧ NwX W.heap.size Y i 0)) (fun iv _ => n - (RowKit.intOf iv).toNat)
    case atStart => exact ⟨0, X, Nat.zero_le _, rfl, Lib.hid ⟨HR.out.1, HR.out.2.1, HR.out.2.2.1, Kx.refl _ _, fun k x hk q v hq ho => by omega⟩⟩
    case round =>
      obtain ⟨i, Y, hi, rfl, HI⟩ := hrel
      by_cases hlt : i < n
      · obtain ⟨x, hx⟩ : ∃ x, Y[i]? = some x := ⟨_, List.getElem?_eq_getElem (by rw [gsX_len HI.out.2.2.1, HR.out.2.2.2.1]; exact hlt)⟩
        have hok := HI.out.2.1 x (List.mem_of_getElem? hx)
        have hcl := HI.out.1.cell hx (q := i * 49) rfl
        have hsz : (Tryz.prog.info? 46).map (·.size) = some x.1.size := by rw [hok.1.size]; exact grade_size
        have hst := fun w => grade_store w hok.1.size hok.1.one
        have hcs := hok.1.size
        have hd1 : decide ((i : Int) < (n : Int)) = true := decide_eq_true (by omega)
        have HS := Lib.hid (And.intro hok (And.intro hcl (And.intro hsz hx)))
        clear hok hcl hsz hx
        go_upto_region 4 with fail
        go_upto_region 5 with (refine wpList_load_cells rfl 46 (.tmp 15) rfl p (i * 49) rfl x.1 HS.out.2.1 _ Tryz.underlying46 rfl HS.out.2.2.1 ?_)
        clear hst hcs
        refine name_world ?_
        intro W1 hW1
        have X5 : Hid (Bx W1 wr.heap.size 46 x.1) := Lib.hid (by rw [hW1]; exact Bx.new wr 46 x.1)
        have B1 : Hid (Below wr.heap.size wr W1) := Lib.hid (by rw [hW1]; exact bnew (ob := .cells x.1 46) (Below.refl _ _))
        have HRW : Hid (RwX W1 p Y R ∧ OkX W1 p Y ∧ gsX Y = gs ∧ Kx p w1 W1 ∧ NwX W.heap.size Y i 0) := Lib.hid ⟨HI.out.1.kx B1.out, HI.out.2.1.keep B1.out, HI.out.2.2.1, HI.out.2.2.2.1.call B1.out, HI.out.2.2.2.2⟩
        obtain ⟨p5, hp5⟩ : ∃ p, wr.heap.size = p := ⟨_, rfl⟩
        rw [hp5] at X5 ⊢
        clear hW1 hp5 B1
        obtain ⟨hD1, hD2⟩ := part_cells X5.out 20 12 (by rw [HS.out.1.1.size]; omega)
        have HD := Lib.hid (And.intro hD1 hD2)
        clear hD1 hD2
        go_wp2_with (refine wpList_load_cells rfl 40 (.tmp 17) rfl p5 20 rfl (x.1.extract 20 (20 + 12)) HD.out.2 _ Tryz.underlying40 rfl (by rw [HD.out.1]; exact size_c4) ?_)
        obtain ⟨D, hD⟩ : ∃ D, x.1.extract 20 (20 + 12) = D := ⟨_, rfl⟩
        rw [hD]
        have HDe := Lib.hid hD
        clear hD hd1
        have HX0 : Hid (OkX W1 p [x]) := Lib.hid (fun y hy => by rw [List.mem_singleton.1 hy]; exact HRW.out.2.1 x (List.mem_of_getElem? HS.out.2.2.2))
        have HS2 : Hid (Y[i]? = some x) := Lib.hid HS.out.2.2.2
        clear HS HI
        clear wr
        go_loopw [19] (fun kv wr => ∃ (j : Nat) (Z : List GX), j ≤ 4 ∧ kv = .int .i64 (j : Int) ∧ Hid (RwX wr p Z R ∧ OkX wr p Z ∧ gsX Z = gs ∧ Kx p W1 wr ∧ OkX wr p [x] ∧ NwX W.heap.size Z i (2 * j))) (fun kv _ => 4 - (RowKit.intOf kv).toNat)
        case atStart => exact ⟨0, Y, by omega, rfl, Lib.hid ⟨HRW.out.1, HRW.out.2.1, HRW.out.2.2.1, Kx.refl _ _, HX0.out, HRW.out.2.2.2.2⟩⟩
        case round =>
          obtain ⟨j, Z, hj, rfl, HJ⟩ := hrel
          by_cases hlj : j < 4
          · have hgx := (HJ.out.2.2.2.2.1 x (List.mem_singleton.2 rfl))
            obtain ⟨c3, hc3⟩ : ∃ c3, x.2.cvs[j]? = some c3 := ⟨_, List.getElem?_eq_getElem (by have := hgx.1.cvs.1; omega)⟩
            obtain ⟨vx, vy, e3, slx, sly⟩ := hgx.1.cv hc3
            rw [HDe.out] at e3
            obtain ⟨_, hl2, _⟩ := (right_of hgx.2.1).cvs c3 (List.mem_of_getElem? hc3)
            have hl1 := ((right_of hgx.2.1).cvs c3 (List.mem_of_getElem? hc3)).1
            obtain ⟨y, hy, hyx⟩ : ∃ y, Z[i]? = some y ∧ y.2 = x.2 := gsX_get HJ.out.2.2.1 (by rw [← HRW.out.2.2.1, gsX, List.getElem?_map, HS2.out]; rfl)
            have HV : Hid (cvC (2 * j) = 21 + 3 * j ∧ cvC (2 * j + 1) = 22 + 3 * j) := Lib.hid ⟨by unfold cvC; omega, by unfold cvC; omega⟩
            obtain ⟨D3, hD3⟩ : ∃ D3, (#[Value.int .i64 c3.kind, vx, vy] : Array Value) = D3 := ⟨_, rfl⟩
            have hone : D3.all (·.oneCell') = true := by
              rw [← hD3]
              obtain ⟨_, _, _, rfl⟩ := slx.form
              obtain ⟨_, _, _, rfl⟩ := sly.form
              simp [Value.oneCell']
            have hcs : D3.size = 3 := by rw [← hD3]; rfl
            have hst := fun w => curve_store w hcs hone
            rw [hD3] at e3
            have HE3 := Lib.hid e3
            have HD3 : Hid (D3[0]? = some (.int .i64 c3.kind) ∧ D3[1]? = some vx ∧ D3[2]? = some vy) := Lib.hid ⟨by rw [← hD3]; rfl, by rw [← hD3]; rfl, by rw [← hD3]; rfl⟩
            obtain ⟨xs, hxs⟩ : ∃ xs, c3.xs = xs := ⟨_, rfl⟩
            obtain ⟨ys, hys⟩ : ∃ ys, c3.ys = ys := ⟨_, rfl⟩
            rw [hxs] at slx hl2 hl1
            rw [hys] at sly hl1
            have HLN := Lib.hid (And.intro hl1 hl2)
            have HY : Hid (Z[i]? = some y ∧ (c3.xs = xs ∧ c3.ys = ys) ∧ y.2.cvs[j]? = some c3) := Lib.hid ⟨hy, ⟨hxs, hys⟩, by rw [hyx]; exact hc3⟩
            have hd2 : decide ((j : Int) < 4) = true := decide_eq_true (by omega)
            have SX := Lib.hid (And.intro slx sly)
            have HUX : Hid (∀ b, usedB vx = some b → b ≠ p) := Lib.hid (fun b hb => hgx.2.2 (2 * j) vx (by omega) (by
              have e4 : x.1[21 + 3 * j]? = some vx := by
                have h5 : D3[1]? = some vx := HD3.out.2.1
                rw [← HE3.out, ← HDe.out, ext_at hgx.1.size hlj (by omega)] at h5
                rw [← h5]; congr 1; omega
              rw [HV.out.1]; exact e4) b hb)
            have HUY : Hid (∀ b, usedB vy = some b → b ≠ p) := Lib.hid (fun b hb => hgx.2.2 (2 * j + 1) vy (by omega) (by
              have e4 : x.1[22 + 3 * j]? = some vy := by
                have h5 : D3[2]? = some vy := HD3.out.2.2
                rw [← HE3.out, ← HDe.out, ext_at hgx.1.size hlj (by omega)] at h5
                rw [← h5]; congr 1; omega
              rw [HV.out.2]; exact e4) b hb)
            clear hc3 slx sly hone hD3 e3 hxs hys hgx hy hyx hl1 hl2
            go_upto_region 7 with fail
            go_upto_region 8 with (refine wpList_index_cv rfl (.tmp 18) (.tmp 19) rfl rfl rfl hlj HE3.out ?_)
            clear hst hcs
            refine name_world ?_
            intro W2 hW2
            have X4 : Hid (Bx W2 wr.heap.size 39 D3) := Lib.hid (by rw [hW2]; exact Bx.new wr _ D3)
            have HB2 : Hid (Below wr.heap.size wr W2) := Lib.hid (by rw [hW2]; exact bnew (ob := .cells D3 39) (Below.refl _ _))
            have HLO : Hid (W.heap.size ≤ W2.heap.size) := Lib.hid (by have h1 := HR.out.2.2.2.2.1.size; have h2 := HRW.out.2.2.2.1.size; have h3 := HJ.out.2.2.2.1.size; have h4 := HB2.out.size; omega)
            have HNE : Hid (wr.heap.size ≠ p) := Lib.hid (Nat.ne_of_gt HJ.out.1.bx.lt)
            obtain ⟨p7, hp7⟩ : ∃ p, wr.heap.size = p := ⟨_, rfl⟩
            rw [hp7] at X4 HNE ⊢
            obtain ⟨A, hA0⟩ : ∃ A, (cellsG (csX Z) ++ R).toArray = A := ⟨_, rfl⟩
            have HA : Hid ((cellsG (csX Z) ++ R).toArray = A) := Lib.hid hA0
            have XJ : Hid (Bx W2 p 46 A) := Lib.hid (by rw [← HA.out]; exact HJ.out.1.bx.keep HB2.out)
            have HSJ : Hid (i * 49 + 49 ≤ A.size) := Lib.hid (by
              rw [← HA.out, List.size_toArray, List.length_append, HJ.out.1.len]
              have := (List.getElem?_eq_some_iff.1 HY.out.1).1
              omega)
            have HSX : Hid (∀ w, Kx p W2 w → Sl w vx xs) := Lib.hid (fun w k => (SX.out.1.keep HB2.out).at fun b hb hl => k.block b hl (HUX.out b hb))
            have HSY : Hid (∀ w, Kx p W2 w → Sl w vy ys) := Lib.hid (fun w k => (SX.out.2.keep HB2.out).at fun b hb hl => k.block b hl (HUY.out b hb))
            clear hW2 hp7 hA0
            obtain ⟨xa, xn, xc, hvx⟩ := SX.out.1.form
            obtain ⟨ya, yn, yc, hvy⟩ := SX.out.2.form
            subst hvx hvy
            clear hd2
            refine wp_region_inv 22 (fun qz u' => if qz = 8 then True else if qz = 11 then True else u' = [(.slice (some ⟨p, 0, none⟩) n c), (.int .i64 (i : Int)), (.int .i64 (j : Int)), (.slice (some ⟨p, 0, none⟩) n c), (.int .i64 (i : Int)), (.int .i64 (j : Int)), (.pointer (some ⟨p7, 1, none⟩)), (.slice xa xn xc), undef, (.pointer (some ⟨p7, 2, none⟩)), (.slice ya yn yc), undef, (.pointer (some ⟨p, i * 49, none⟩)), (.pointer (some ⟨p, i * 49 + 20, none⟩)), (.pointer (some ⟨p, i * 49 + 20 + j * 3, none⟩)), (.pointer (some ⟨p, i * 49 + 20 + j * 3 + 1, none⟩)), undef, (.pointer (some ⟨p, i * 49, none⟩)), (.pointer (some ⟨p, i * 49 + 20, none⟩)), (.pointer (some ⟨p, i * 49 + 20 + j * 3, none⟩)), (.pointer (some ⟨p, i * 49 + 20 + j * 3 + 2, none⟩)), undef].getD qz undef) (fun d vs w' => CE p W2 A (i * 49 + 20 + j * 3 + 1) (i * 49 + 20 + j * 3 + 2) xs ys (d 8) (d 11) (d 16) (d 21) (vs 8) (vs 11) w') (by kernel_rfl) (by kernel_rfl) ?_ ?_ ?_
            · intro vs
              exact CE.keep (w := W2) ⟨Kx.refl _ _, XJ.out, fun e => (by cases e), fun e => (by cases e), fun e => (by cases e), fun e => (by cases e), fun e => (by cases e)⟩ ((Below.refl _ _).drew)
            · intro iq oq hi ho
              rcases (by omega : iq = 0 ∨ iq = 1 ∨ iq = 2 ∨ iq = 3 ∨ iq = 4 ∨ iq = 5 ∨ iq = 6 ∨ iq = 7 ∨ iq = 8 ∨ iq = 9 ∨ iq = 10 ∨ iq = 11 ∨ iq = 12 ∨ iq = 13 ∨ iq = 14 ∨ iq = 15 ∨ iq = 16 ∨ iq = 17 ∨ iq = 18 ∨ iq = 19 ∨ iq = 20 ∨ iq = 21) with rfl | rfl | rfl | rfl | rfl | rfl | rfl | rfl | rfl | rfl | rfl | rfl | rfl | rfl | rfl | rfl | rfl | rfl | rfl | rfl | rfl | rfl
              all_goals simp only [List.getElem?_cons_zero, List.getElem?_cons_succ, Option.some.injEq] at ho
              all_goals subst ho
              all_goals intro d a0 wx hI hag hdep hun
              · have e0 := slot_eq (hag 3 rfl)
                exact inv_val (v := (.slice (some ⟨p, 0, none⟩) n c)) (by simp [go_sem, e0]) (fun h => (by cases h)) rfl hI
              · have e0 := slot_eq (hag 4 rfl)
                exact inv_val (v := (.int .i64 (i : Int))) (by simp [go_sem, e0]) (fun h => (by cases h)) rfl hI
              · have e0 := slot_eq (hag 6 rfl)
                exact inv_val (v := (.int .i64 (j : Int))) (by simp [go_sem, e0]) (fun h => (by cases h)) rfl hI
              · have e0 := slot_eq (hag 3 rfl)
                exact inv_val (v := (.slice (some ⟨p, 0, none⟩) n c)) (by simp [go_sem, e0]) (fun h => (by cases h)) rfl hI
              · have e0 := slot_eq (hag 4 rfl)
                exact inv_val (v := (.int .i64 (i : Int))) (by simp [go_sem, e0]) (fun h => (by cases h)) rfl hI
              · have e0 := slot_eq (hag 6 rfl)
                exact inv_val (v := (.int .i64 (j : Int))) (by simp [go_sem, e0]) (fun h => (by cases h)) rfl hI
              · have e0 := slot_eq (hag 7 rfl)
                exact inv_val (v := (.pointer (some ⟨p7, 1, none⟩))) (by simp [go_sem, e0]) (fun h => (by cases h)) rfl hI
              · have hq := (hI.kx.bx X4.out HNE.out).all.1 1
                rw [HD3.out.2.1] at hq
                have e0 := slot_eq (hdep ⟨6, .data⟩ (by simp) rfl).1
                exact inv_val (v := (.slice xa xn xc)) (by simp [go_sem, e0, hq]) (fun h => (by cases h)) rfl hI
              · have e0 := slot_eq (hdep ⟨7, .data⟩ (by simp) rfl).1
                refine inv_call (f := 68) (args := #[(.slice xa xn xc)]) (run_go_call Tryz.func68 (by kernel_rfl) (by kernel_rfl) _ _ _ _ _ _ _ _ _ _ (by simp [Act.eval, e0])) (fun h => (by cases h)) ?_
                refine (sl_CloneF (.slice xa xn xc) _ wx (HSX.out wx hI.kx) (by have := HLN.out; omega)).mono ?_
                rintro e w' ⟨u', rfl, ho, hb⟩
                exact ⟨u', rfl, trivial, CE.set4 hI hun ho hb⟩
              · have e0 := slot_eq (hag 7 rfl)
                exact inv_val (v := (.pointer (some ⟨p7, 2, none⟩))) (by simp [go_sem, e0]) (fun h => (by cases h)) rfl hI
              · have hq := (hI.kx.bx X4.out HNE.out).all.1 2
                rw [HD3.out.2.2] at hq
                have e0 := slot_eq (hdep ⟨9, .data⟩ (by simp) rfl).1
                exact inv_val (v := (.slice ya yn yc)) (by simp [go_sem, e0, hq]) (fun h => (by cases h)) rfl hI
              · have e0 := slot_eq (hdep ⟨10, .data⟩ (by simp) rfl).1
                refine inv_call (f := 68) (args := #[(.slice ya yn yc)]) (run_go_call Tryz.func68 (by kernel_rfl) (by kernel_rfl) _ _ _ _ _ _ _ _ _ _ (by simp [Act.eval, e0])) (fun h => (by cases h)) ?_
                refine (sl_CloneF (.slice ya yn yc) _ wx (HSY.out wx hI.kx) (by have := HLN.out; omega)).mono ?_
                rintro e w' ⟨u', rfl, ho, hb⟩
                exact ⟨u', rfl, trivial, CE.set7 hI hun ho hb⟩
              · have z1 : (i : Int) < (n : Int) := by omega
                have e0 := slot_eq (hdep ⟨0, .data⟩ (by simp) rfl).1
                have e1 := slot_eq (hdep ⟨1, .data⟩ (by simp) rfl).1
                exact inv_val (v := (.pointer (some ⟨p, i * 49, none⟩))) (by simp [go_sem, e0, e1, z1, hlt]) (fun h => (by cases h)) rfl hI
              · have e0 := slot_eq (hdep ⟨12, .data⟩ (by simp) rfl).1
                exact inv_val (v := (.pointer (some ⟨p, i * 49 + 20, none⟩))) (by simp [go_sem, e0]) (fun h => (by cases h)) rfl hI
              · have z1 : (j : Int) < 4 := by omega
                have e0 := slot_eq (hdep ⟨13, .data⟩ (by simp) rfl).1
                have e1 := slot_eq (hdep ⟨2, .data⟩ (by simp) rfl).1
                exact inv_val (v := (.pointer (some ⟨p, i * 49 + 20 + j * 3, none⟩))) (by simp [go_sem, e0, e1, z1, hlj]) (fun h => (by cases h)) rfl hI
              · have e0 := slot_eq (hdep ⟨14, .data⟩ (by simp) rfl).1
                exact inv_val (v := (.pointer (some ⟨p, i * 49 + 20 + j * 3 + 1, none⟩))) (by simp [go_sem, e0]) (fun h => (by cases h)) rfl hI
              · have e0 := slot_eq (hdep ⟨15, .data⟩ (by simp) rfl).1
                have h4 := (hdep ⟨8, .data⟩ (by simp) rfl).2
                obtain ⟨pa, na, ca, hv4⟩ := (hI.a4 h4).form
                have e1 := slot_eq hv4
                obtain ⟨qx, fx, _⟩ := hI.bx.all
                have hf := fx (i * 49 + 20 + j * 3 + 1)
                obtain ⟨uu, hq⟩ : ∃ uu, wx.cell? ⟨p, i * 49 + 20 + j * 3 + 1, none⟩ = some uu := by
                  refine ⟨_, (qx _).trans (Array.getElem?_eq_getElem ?_)⟩
                  have := HSJ.out
                  split <;> split <;> simp <;> omega
                have hS := hI.set11 h4 hun (by omega)
                refine inv_skip (w' := wx.setCell ⟨p, i * 49 + 20 + j * 3 + 1, none⟩ (slotOf _ a0 8)) ?_ rfl hS
                rw [hv4]
                clear hS hI hag hdep hv4 qx fx
                simp [go_sem, e0, e1, hq, hf]
              · have z1 : (i : Int) < (n : Int) := by omega
                have e0 := slot_eq (hdep ⟨3, .data⟩ (by simp) rfl).1
                have e1 := slot_eq (hdep ⟨4, .data⟩ (by simp) rfl).1
                exact inv_val (v := (.pointer (some ⟨p, i * 49, none⟩))) (by simp [go_sem, e0, e1, z1, hlt]) (fun h => (by cases h)) rfl hI
              · have e0 := slot_eq (hdep ⟨17, .data⟩ (by simp) rfl).1
                exact inv_val (v := (.pointer (some ⟨p, i * 49 + 20, none⟩))) (by simp [go_sem, e0]) (fun h => (by cases h)) rfl hI
              · have z1 : (j : Int) < 4 := by omega
                have e0 := slot_eq (hdep ⟨18, .data⟩ (by simp) rfl).1
                have e1 := slot_eq (hdep ⟨5, .data⟩ (by simp) rfl).1
                exact inv_val (v := (.pointer (some ⟨p, i * 49 + 20 + j * 3, none⟩))) (by simp [go_sem, e0, e1, z1, hlj]) (fun h => (by cases h)) rfl hI
              · have e0 := slot_eq (hdep ⟨19, .data⟩ (by simp) rfl).1
                exact inv_val (v := (.pointer (some ⟨p, i * 49 + 20 + j * 3 + 2, none⟩))) (by simp [go_sem, e0]) (fun h => (by cases h)) rfl hI
              · have e0 := slot_eq (hdep ⟨20, .data⟩ (by simp) rfl).1
                have h4 := (hdep ⟨11, .data⟩ (by simp) rfl).2
                obtain ⟨pa, na, ca, hv4⟩ := (hI.a7 h4).form
                have e1 := slot_eq hv4
                obtain ⟨qx, fx, _⟩ := hI.bx.all
                have hf := fx (i * 49 + 20 + j * 3 + 2)
                obtain ⟨uu, hq⟩ : ∃ uu, wx.cell? ⟨p, i * 49 + 20 + j * 3 + 2, none⟩ = some uu := by
                  refine ⟨_, (qx _).trans (Array.getElem?_eq_getElem ?_)⟩
                  have := HSJ.out
                  split <;> split <;> simp <;> omega
                have hS := hI.set15 h4 hun
                refine inv_skip (w' := wx.setCell ⟨p, i * 49 + 20 + j * 3 + 2, none⟩ (slotOf _ a0 11)) ?_ rfl hS
                rw [hv4]
                clear hS hI hag hdep hv4 qx fx
                simp [go_sem, e0, e1, hq, hf]
            · intro d vs w6 hd hI hA
              have k0 : vs 0 = (.slice (some ⟨p, 0, none⟩) n c) := hA 0 (by omega)
              have k1 : vs 1 = (.int .i64 (i : Int)) := hA 1 (by omega)
              have k2 : vs 2 = (.int .i64 (j : Int)) := hA 2 (by omega)
              have k3 : vs 3 = (.slice (some ⟨p, 0, none⟩) n c) := hA 3 (by omega)
              have k4 : vs 4 = (.int .i64 (i : Int)) := hA 4 (by omega)
              have k5 : vs 5 = (.int .i64 (j : Int)) := hA 5 (by omega)
              have k6 : vs 6 = (.pointer (some ⟨p7, 1, none⟩)) := hA 6 (by omega)
              have k7 : vs 7 = (.slice xa xn xc) := hA 7 (by omega)
              have k9 : vs 9 = (.pointer (some ⟨p7, 2, none⟩)) := hA 9 (by omega)
              have k10 : vs 10 = (.slice ya yn yc) := hA 10 (by omega)
              have k12 : vs 12 = (.pointer (some ⟨p, i * 49, none⟩)) := hA 12 (by omega)
              have k13 : vs 13 = (.pointer (some ⟨p, i * 49 + 20, none⟩)) := hA 13 (by omega)
              have k14 : vs 14 = (.pointer (some ⟨p, i * 49 + 20 + j * 3, none⟩)) := hA 14 (by omega)
              have k15 : vs 15 = (.pointer (some ⟨p, i * 49 + 20 + j * 3 + 1, none⟩)) := hA 15 (by omega)
              have k17 : vs 17 = (.pointer (some ⟨p, i * 49, none⟩)) := hA 17 (by omega)
              have k18 : vs 18 = (.pointer (some ⟨p, i * 49 + 20, none⟩)) := hA 18 (by omega)
              have k19 : vs 19 = (.pointer (some ⟨p, i * 49 + 20 + j * 3, none⟩)) := hA 19 (by omega)
              have k20 : vs 20 = (.pointer (some ⟨p, i * 49 + 20 + j * 3 + 2, none⟩)) := hA 20 (by omega)
              simp only [putAll, dstAt, List.getElem?_toArray, List.getElem?_cons_zero, List.getElem?_cons_succ, Option.bind_some, Option.bind_none, Act.put, List.setIfInBounds_toArray, List.set_cons_zero, List.set_cons_succ, k0, k1, k2, k3, k4, k5, k6, k7, k9, k10, k12, k13, k14, k15, k17, k18, k19, k20]
              have hI6 : CE p W2 A (i * 49 + 20 + j * 3 + 1) (i * 49 + 20 + j * 3 + 2) xs ys true true true true (vs 8) (vs 11) w6 := by
                have h := hI
                simp only [hd 8 (by omega), hd 11 (by omega), hd 16 (by omega), hd 21 (by omega)] at h
                exact h
              generalize vs 8 = v4 at *
              generalize vs 11 = v7 at *
              have HN := Lib.hid hI6
              have HK := Lib.hid (And.intro hlj hlt)
              clear hI hA hd k0 k1 k2 k3 k4 k5 k6 k7 k9 k10 k12 k13 k14 k15 k17 k18 k19 k20 hI6 hlj
              go_wp2_with fail
              go_roundw
              case rel =>
                have hN := HN.out
                have hx := hN.bx
                rw [if_pos rfl, if_pos rfl, ← HA.out] at hx
                have hlj := HK.out.1
                have hXR : RwX w6 p (Z.set i ((y.1.setIfInBounds (cvC (2 * j)) v4).setIfInBounds (cvC (2 * j + 1)) v7, y.2)) R := (HJ.out.1.kx HB2.out).put HY.out.1 (by unfold cvC; omega) (by unfold cvC; omega) (by unfold cvC; omega) (by unfold cvC; omega) hx
                have hp2 : p < W2.heap.size := Nat.lt_of_lt_of_le HJ.out.1.bx.lt HB2.out.size
                have hOK : OkX w6 p Z := (HJ.out.2.1.keep HB2.out).kx hN.kx
                refine ⟨j + 1, _, by omega, by go_num, Lib.hid ⟨hXR, hOK.put2 HY.out.1 hlj HY.out.2.2 (by rw [HY.out.2.1.1]; exact hN.a4 rfl) (by rw [HY.out.2.1.2]; exact hN.a7 rfl) hp2, (gsX_set HY.out.1 _).trans HJ.out.2.2.1, (HJ.out.2.2.2.1.call HB2.out).trans hN.kx, (HJ.out.2.2.2.2.1.keep HB2.out).kx hN.kx, HJ.out.2.2.2.2.2.put2 HY.out.1 (HJ.out.1.sz y (List.mem_of_getElem? HY.out.1)) hlj (fun b hb => by have := ownB_used (hN.a4 rfl) hb; have := HLO.out; omega) (fun b hb => by have := ownB_used (hN.a7 rfl) hb; have := HLO.out; omega)⟩⟩
              case measure => have := HK.out; simp [RowKit.intOf]; omega
          · obtain rfl : j = 4 := by omega
            go_wp2_with fail
            go_roundw
            case rel => exact ⟨i + 1, Z, by omega, by go_num, Lib.hid ⟨HJ.out.1, HJ.out.2.1, HJ.out.2.2.1, HRW.out.2.2.2.1.trans HJ.out.2.2.2.1, HJ.out.2.2.2.2.2.next⟩⟩
            case measure => simp [RowKit.intOf]; omega
      · obtain rfl : i = n := by omega
        go_wp2_with fail
        go_ret
        have hbw := below_kx HR.out.2.2.2.2.1 HI.out.2.2.2.1 HR.out.2.2.2.2.2.1 HR.out.2.2.2.2.1.size
        refine ⟨_, rfl, fun w9 h9 => ?_, hbw⟩
        have hx9 : RwX w9 p Y R := ⟨(h9 p HR.out.2.2.2.2.2.1 HI.out.1.bx.lt).trans HI.out.1.bx, HI.out.1.sz⟩
        refine ⟨some ⟨p, 0, none⟩, c, congrArg (fun m => Value.slice (some ⟨p, 0, none⟩) m c) HR.out.2.2.2.1.symm, by rw [HR.out.2.2.2.1]; exact HR.out.2.2.2.2.2.2.1, HR.out.2.2.2.2.2.2.2, .inr ⟨p, 0, rfl, hx9.bx.lt, fun k g hg => ?_⟩⟩
        obtain ⟨y, hy, hyg⟩ := gsX_get HI.out.2.2.1 hg
        subst hyg
        have hki : k < i := by
          have h1 := (List.getElem?_eq_some_iff.1 hg).1
          have h2 := HR.out.2.2.2.1
          omega
        exact ⟨y.1, (HI.out.2.1 y (List.mem_of_getElem? hy)).1.at fun q v hq hv b hb hl => h9 b (HI.out.2.2.2.2 k y hy q v hq (.inl hki) hv b hb) hl, fun j v hj => by rw [Nat.zero_add]; exact hx9.cell hy rfl j v hj⟩
end Go.Proofs.YticekgnmiaidjaaGreatDoor
