/- dyeref1.Merge. (printed by gen_lku.py) -/
import Derived.Test.YticekgnmiaidjaaGreatDoorLkS
import Derived.Test.YticekgnmiaidjaaGreatDoorLkT
namespace Go.Proofs.YticekgnmiaidjaaGreatDoor
open Go.RowKit Go.Lib

/-- The slice v is the call's own row of the rows Z; their grades lie in the memory of W. -/
structure RfR (W : World) (B : Nat) (w : World) (v : Value) (Z : List RZ) : Prop where
  own : w.ownsRow B 89 2 v Z.length (rzC Z)
  gr : ∀ z ∈ Z, SlG W z.2.1 z.2.2
theorem RfR.form {W w : World} {B : Nat} {v : Value} {Z : List RZ} (h : RfR W B w v Z) : ∃ a c, v = .slice a Z.length c := by
  rcases h.own.2 with ⟨e, h0⟩ | ⟨g, c, cur, e, _⟩
  · exact ⟨none, 0, by rw [e, h0]⟩
  · exact ⟨_, c, e⟩
theorem RfR.nil (W : World) (B : Nat) (w : World) : RfR W B w (.slice none 0 0) [] := ⟨World.ownsRow_nil _ _ _ _, fun z hz => by cases hz⟩
theorem RfR.keepg {W w w' : World} {B : Nat} {v : Value} {Z : List RZ} (h : RfR W B w v Z) (hk : ∀ g, v.ownBlock = some g → g < w.heap.size → w'.heap[g]? = w.heap[g]?) : RfR W B w' v Z := ⟨own_keepg h.own hk, h.gr⟩
theorem RfR.keep {W w w' : World} {B : Nat} {v : Value} {Z : List RZ} (h : RfR W B w v Z) (hb : Below w.heap.size w w') : RfR W B w' v Z := h.keepg fun g _ hg => hb.block g hg
theorem RfR.base {W w : World} {B : Nat} {v : Value} {Z : List RZ} (h : RfR W B w v Z) : ∀ g, v.ownBlock = some g → B ≤ g ∧ g < w.heap.size := fun g hg => h.own.lt g hg
theorem RfR.sl {W w : World} {B : Nat} {v : Value} {Z : List RZ} (h : RfR W B w v Z) (hb : Below W.heap.size W w) : SlL w v (rzR Z) := by
  rcases h.own.2 with ⟨e, h0⟩ | ⟨g, c, cur, e, h1, h2, h3, h4, h5, h6⟩
  · have : Z = [] := List.length_eq_zero_iff.1 h0
    subst this
    exact ⟨none, 0, e, Nat.zero_le _, Nat.zero_le _, .inl rfl⟩
  · refine ⟨some ⟨g, 0, none⟩, c, by rw [rzR_len]; exact e, by rw [rzR_len]; exact h3, h4, .inr ⟨g, 0, rfl, (Array.getElem?_eq_some_iff.1 h2).1, fun k r hr => ?_⟩⟩
    have hc : ∀ j u, (rzC Z)[j]? = some u → w.cell? ⟨g, j, none⟩ = some u := fun j u hj => by
      rw [cell_of_row w g j cur _ (0, 0) h2]
      rw [← h6, List.getElem?_take] at hj
      split at hj
      · rw [Array.getElem?_toList] at hj; exact hj
      · cases hj
    unfold rzR at hr
    rw [List.getElem?_map] at hr
    cases hz : Z[k]? with
    | none => rw [hz] at hr; cases hr
    | some z =>
      rw [hz] at hr
      have hr : (z.1, z.2.2) = r := by simpa using hr
      subst hr
      obtain ⟨q1, q2⟩ := rzC_get hz
      rw [Nat.zero_add]
      exact ⟨hc _ _ q1, z.2.1, hc _ _ q2, (h.gr z (List.mem_of_getElem? hz)).keep hb⟩
/-- A round's state: the box p9 has the rows, vc is the conflicts' row, apart from them. -/
structure RS (W w9 : World) (p9 : Nat) (o t u : List Rw) (S : List ByteArray) (k : Nat) (wr : World) (vc : Value) (ks : List ByteArray) (v9 : Value) (Z : List RZ) : Prop where
  kx : Kx p9 w9 wr
  bx : Bx wr p9 57 #[v9]
  rw : RfR W w9.heap.size wr v9 Z
  cf : OwnS w9.heap.size wr vc ks
  ap : ∀ g, vc.ownBlock = some g → v9.ownBlock ≠ some g
  ks : ks = (S.take k).filter (fun x => confM (getR o x) (getR t x) (getR u x))
  zs : rzR Z = rowsOf (fun x => pickR (getR o x) (getR t x) (getR u x)) (S.take k)
  p9 : p9 < w9.heap.size
theorem RS.call {W w9 : World} {p9 : Nat} {o t u : List Rw} {S : List ByteArray} {k : Nat} {wr w : World} {vc : Value} {ks : List ByteArray} {v9 : Value} {Z : List RZ} (h : RS W w9 p9 o t u S k wr vc ks v9 Z) (hb : Below wr.heap.size wr w) : RS W w9 p9 o t u S k w vc ks v9 Z :=
  ⟨h.kx.call hb, h.bx.keep hb, h.rw.keep hb, h.cf.keep hb, h.ap, h.ks, h.zs, h.p9⟩
theorem rf_zlen {Z : List RZ} {f : ByteArray → Option (List Gd)} {S : List ByteArray} {k : Nat} (h : rzR Z = rowsOf f (S.take k)) (hS : S.length ≤ 1500) : Z.length ≤ 1500 := by
  have h1 := congrArg List.length h
  rw [rzR_len] at h1
  have h2 : (rowsOf f (S.take k)).length ≤ (S.take k).length := List.length_filterMap_le _ _
  rw [List.length_take] at h2
  omega
set_option maxRecDepth 100000 in
set_option maxHeartbeats 16000000 in
theorem ref_Merge (vo vt vu : Value) (o t u : List Rw) (W : World) (E : EnvF W) (ho : SlL W vo o) (ht : SlL W vt t) (hu : SlL W vu u) (ro : LookR o) (rt : LookR t) (ru : LookR u) :
    Calls Tryz.prog 20 #[.agg #[vo], .agg #[vt], .agg #[vu]] W fun e w' => MergeIs W w' 0 (outR o t u) (confs o t u) e ∧ Below W.heap.size W w' := by
  have HS := Lib.hid (And.intro ho (And.intro ht hu))
  have HR := Lib.hid (And.intro ro (And.intro rt ru))
  have HWD := Lib.hid E
  obtain ⟨a1, c1, rfl, _⟩ := ho
  obtain ⟨a2, c2, rfl, _⟩ := ht
  obtain ⟨a3, c3, rfl, _⟩ := hu
  obtain ⟨n1, hn1⟩ : ∃ n, o.length = n := ⟨_, rfl⟩
  obtain ⟨n2, hn2⟩ : ∃ n, t.length = n := ⟨_, rfl⟩
  obtain ⟨n3, hn3⟩ : ∃ n, u.length = n := ⟨_, rfl⟩
  rw [hn1, hn2, hn3] at HS ⊢
  clear hn1 hn2 hn3 E ro rt ru
  have hcf : ∀ (args : Array Value) (u : World), (callFunc 47 args).run Tryz.prog u = .ok (.enter 47 args) u := fun args u => enters Tryz.func47 (by kernel_rfl) (by kernel_rfl) _ _
  go_enter Tryz.func20, Tryz.ntmps20
  go_upto_region 1 with fail
  refine name_world ?_
  intro W1 hW1
  have HX := box4 W 57 #[.slice a1 n1 c1] #[.slice a2 n2 c2] #[.slice a3 n3 c3] #[.slice none 0 0]
  rw [← hW1] at HX
  repeat rw [szA]
  obtain ⟨p3, hp3⟩ : ∃ p, W.heap.size = p := ⟨_, rfl⟩
  obtain ⟨p4, hp4⟩ : ∃ p, p3 + 1 = p := ⟨_, rfl⟩
  obtain ⟨p5, hp5⟩ : ∃ p, p4 + 1 = p := ⟨_, rfl⟩
  obtain ⟨p6, hp6⟩ : ∃ p, p5 + 1 = p := ⟨_, rfl⟩
  have HPP := Lib.hid (And.intro hp3 (And.intro hp4 (And.intro hp5 hp6)))
  have HW := Lib.hid HX.2.2.2.2
  have X3 := Lib.hid HX.1
  have X4 := Lib.hid HX.2.1
  have X5 := Lib.hid HX.2.2.1
  have X6 := Lib.hid HX.2.2.2.1
  rw [hp3] at X3
  rw [hp3, hp4] at X4
  rw [hp3, hp4, hp5] at X5
  rw [hp3, hp4, hp5, hp6] at X6
  try rw [hp3]
  try rw [hp4]
  try rw [hp5]
  try rw [hp6]
  clear hW1 hp3 hp4 hp5 hp6 HX
  go_upto_region 2 with fail
  refine name_world ?_
  intro W2 hW2
  have X9 : Hid (Bx W2 W1.heap.size 57 #[.slice none 0 0]) := Lib.hid (by rw [hW2]; exact Bx.new _ _ _)
  have HB12 : Hid (Below W1.heap.size W1 W2) := Lib.hid (by rw [hW2]; exact bnew (Below.refl _ _))
  obtain ⟨p9, hp9⟩ : ∃ p, W1.heap.size = p := ⟨_, rfl⟩
  have HP9 := Lib.hid hp9
  rw [hp9] at X9 ⊢
  clear hW2 hp9
  have x3 := Lib.hid (X3.out.keep HB12.out)
  have x4 := Lib.hid (X4.out.keep HB12.out)
  have x5 := Lib.hid (X5.out.keep HB12.out)
  have x6 := Lib.hid (X6.out.keep HB12.out)
  have q3 := x3.out.all.1 0
  have q4 := x4.out.all.1 0
  have q5 := x5.out.all.1 0
  simp only [List.getElem?_toArray, List.getElem?_cons_zero] at q3 q4 q5
  go_wp2_with fail
  refine name_callL ?_
  intro W8 hW8
  have X23 : Hid (Bx W8 W2.heap.size 57 #[.slice a1 n1 c1, .slice a2 n2 c2, .slice a3 n3 c3]) := Lib.hid (by rw [hW8]; exact Bx.new _ _ _)
  have HB28 : Hid (Below W2.heap.size W2 W8) := Lib.hid (by rw [hW8]; exact bnew (Below.refl _ _))
  obtain ⟨g23, hg23⟩ : ∃ g, W2.heap.size = g := ⟨_, rfl⟩
  rw [hg23] at X23 ⊢
  clear hW8 hg23 q3 q4 q5
  have HBW8 : Hid (Below W.heap.size W W8) := Lib.hid (HW.out.trans ((HB12.out.trans (HB28.out.mono HB12.out.size)).mono HW.out.size))
  refine (ref_shots [((.slice a1 n1 c1), o), ((.slice a2 n2 c2), t), ((.slice a3 n3 c3), u)] g23 3 W8 (fun j l hj => ?_) (by simp) (fun l hl => ?_)).mono ?_
  · match j, hj with
    | 0, hj =>
      rw [← Option.some.inj hj]
      exact ⟨X23.out.all.1 0, HS.out.1.keep HBW8.out⟩
    | 1, hj =>
      rw [← Option.some.inj hj]
      exact ⟨X23.out.all.1 1, HS.out.2.1.keep HBW8.out⟩
    | 2, hj =>
      rw [← Option.some.inj hj]
      exact ⟨X23.out.all.1 2, HS.out.2.2.keep HBW8.out⟩
  · have h1 := HR.out.1.ok.len
    have h2 := HR.out.2.1.ok.len
    have h3 := HR.out.2.2.ok.len
    rcases List.mem_cons.1 hl with rfl | hl
    · show o.length ≤ 1000; omega
    · rcases List.mem_cons.1 hl with rfl | hl
      · show t.length ≤ 1000; omega
      · rw [List.mem_singleton.1 hl]; show u.length ≤ 1000; omega
  rintro e w9 ⟨v24, rfl, ho9, hb9⟩
  obtain ⟨S, hS⟩ : ∃ S, namesM o t u = S := ⟨_, rfl⟩
  have HSS := Lib.hid hS
  have eS : allS (([((.slice a1 n1 c1), o), ((.slice a2 n2 c2), t), ((.slice a3 n3 c3), u)] : List Lk).flatMap nmL) = S := by
    rw [← hS]
    refine allS_mem fun s => ?_
    simp only [List.flatMap_cons, List.flatMap_nil, List.append_nil, List.mem_append, nmL]
    rw [or_assoc]
  rw [eS] at ho9
  obtain ⟨n, hn⟩ : ∃ n, S.length = n := ⟨_, rfl⟩
  have HSn : Hid (S.length = n ∧ S.length ≤ 1500) := Lib.hid ⟨hn, by rw [← hS]; exact names_len HR.out.1 HR.out.2.1 HR.out.2.2⟩
  obtain ⟨a24, c24, hv24, hc24⟩ : ∃ a c, v24 = .slice a n c ∧ (0 < n → ∃ g, a = some ⟨g, 0, none⟩ ∧ W8.heap.size ≤ g ∧ g < w9.heap.size ∧ ∀ k, k < n → w9.cell? ⟨g, k, none⟩ = some (.string (S.getD k default))) := by
    rcases OwnS.form ho9 with ⟨h0, h1⟩ | ⟨g, c, h1, h2, h3, _, h4⟩
    · refine ⟨none, 0, by rw [h1, ← hn, h0]; rfl, fun h => ?_⟩
      rw [← hn, h0] at h; simp at h
    · rw [hn] at h1 h4
      exact ⟨_, c, h1, fun _ => ⟨g, rfl, h2, h3, h4⟩⟩
  subst hv24
  have HC := Lib.hid hc24
  have HBW9 : Hid (Below W.heap.size W w9) := Lib.hid (bcall HBW8.out hb9)
  have HB29 : Hid (Below W2.heap.size W2 w9) := Lib.hid (bcall HB28.out hb9)
  have Y3 := Lib.hid (x3.out.keep HB29.out)
  have Y4 := Lib.hid (x4.out.keep HB29.out)
  have Y5 := Lib.hid (x5.out.keep HB29.out)
  have Y6 := Lib.hid (x6.out.keep HB29.out)
  have Y9 := Lib.hid (X9.out.keep HB29.out)
  have HPL : Hid (p3 < p9 ∧ p4 < p9 ∧ p5 < p9 ∧ p6 < p9 ∧ p9 < W2.heap.size ∧ W2.heap.size ≤ W8.heap.size ∧ W8.heap.size ≤ w9.heap.size ∧ W.heap.size ≤ p9) := Lib.hid (by
    have h1 := HPP.out
    have h2 := X6.out.lt
    have h3 := HP9.out
    exact ⟨by omega, by omega, by omega, by omega, X9.out.lt, HB28.out.size, hb9.size, by omega⟩)
  clear ho9 hb9 hc24 hn hS eS
  have hn15 : n ≤ 1500 := by have := HSn.out; omega
  go_wp2_with fail
  go_loopw [10, 26] (fun v i wr => ∃ (k : Nat) (ks : List ByteArray) (v9 : Value) (Z : List RZ), k ≤ n ∧ i = .int .i64 (k : Int) ∧ Hid (RS W w9 p9 o t u S k wr v ks v9 Z)) (fun _ i _ => n - (RowKit.intOf i).toNat)
  case atStart => exact ⟨0, [], .slice none 0 0, [], Nat.zero_le _, rfl, Lib.hid ⟨Kx.refl _ _, Y9.out, RfR.nil _ _ _, World.ownsRow_nil _ _ _ _, fun g hg => (by cases hg), rfl, rfl, by have := HPL.out; omega⟩⟩
  case round =>
    obtain ⟨k, ks, v9, Z, hk, rfl, Rwr⟩ := hrel
    by_cases hlt : k < n
    · obtain ⟨g24, rfl, hlo, hhi, hcel⟩ := HC.out (by omega)
      obtain ⟨s, hs⟩ : ∃ s, S[k]? = some s := ⟨_, List.getElem?_eq_getElem (by rw [HSn.out.1]; exact hlt)⟩
      have hx : wr.cell? ⟨g24, k, none⟩ = some (.string s) := by
        have h1 : w9.cell? ⟨g24, k, none⟩ = some (.string s) := by
          have h2 := hcel k hlt
          rw [List.getD_eq_getElem?_getD, hs] at h2
          exact h2
        exact Eq.trans (World.cell?_of_block (a := ⟨g24, k, none⟩) (Rwr.out.kx.block g24 hhi (by have := HPL.out; omega))) h1
      have HSK : Hid (S[k]? = some s ∧ S.Pairwise ltS ∧ s.size ≤ maxLen) := Lib.hid ⟨hs, by rw [← HSS.out]; exact names_srt _ _ _, names_size HR.out.1 HR.out.2.1 HR.out.2.2 s (by rw [HSS.out]; exact List.mem_of_getElem? hs)⟩
      have HBWwr : Hid (Below W.heap.size W wr) := Lib.hid (below_kx HBW9.out Rwr.out.kx (by have := HPL.out; omega) HBW9.out.size)
      have z3 : Hid (∀ w, RS W w9 p9 o t u S k w u10 ks v9 Z → w.cell? ⟨p3, 0, none⟩ = some (.slice a1 n1 c1)) := Lib.hid fun w h => (h.kx.bx Y3.out (by have := HPL.out; omega)).all.1 0
      have z4 : Hid (∀ w, RS W w9 p9 o t u S k w u10 ks v9 Z → w.cell? ⟨p4, 0, none⟩ = some (.slice a2 n2 c2)) := Lib.hid fun w h => (h.kx.bx Y4.out (by have := HPL.out; omega)).all.1 0
      have z5 : Hid (∀ w, RS W w9 p9 o t u S k w u10 ks v9 Z → w.cell? ⟨p5, 0, none⟩ = some (.slice a3 n3 c3)) := Lib.hid fun w h => (h.kx.bx Y5.out (by have := HPL.out; omega)).all.1 0
      have hd1 : decide ((k : Int) < (n : Int)) = true := decide_eq_true (by omega)
      have hkn : (k : Int) < (n : Int) := by omega
      clear hs hcel hlo hhi
      have y3 := z3.out _ Rwr.out
      go_wp2_with fail
      clear hx hd1 hkn y3
      obtain ⟨i0, hi0⟩ : ∃ z, (getR o s).isSome = z := ⟨_, rfl⟩
      have HI0 := Lib.hid hi0
      clear hi0
      refine (ref_grades _ o s W _ HS.out.1 HBWwr.out (by have := HR.out.1.ok.len; omega) i0 HI0.out).mono ?_
      rintro e wa ⟨ax0, nx0, cx0, rfl, hg, hb⟩
      have HG0 := Lib.hid hg
      have HBWwa := Lib.hid (bcall HBWwr.out hb)
      have Rwa := Lib.hid (Rwr.out.call hb)
      clear hg hb
      have y4 := z4.out _ Rwa.out
      go_wp2_with fail
      clear y4
      obtain ⟨i1, hi1⟩ : ∃ z, (getR t s).isSome = z := ⟨_, rfl⟩
      have HI1 := Lib.hid hi1
      clear hi1
      refine (ref_grades _ t s W _ HS.out.2.1 HBWwa.out (by have := HR.out.2.1.ok.len; omega) i1 HI1.out).mono ?_
      rintro e wb ⟨ax1, nx1, cx1, rfl, hg, hb⟩
      have HG1 := Lib.hid hg
      have HBWwb := Lib.hid (bcall HBWwa.out hb)
      have Rwb := Lib.hid (Rwa.out.call hb)
      clear hg hb
      have y5 := z5.out _ Rwb.out
      go_wp2_with fail
      clear y5
      obtain ⟨i2, hi2⟩ : ∃ z, (getR u s).isSome = z := ⟨_, rfl⟩
      have HI2 := Lib.hid hi2
      clear hi2
      refine (ref_grades _ u s W _ HS.out.2.2 HBWwb.out (by have := HR.out.2.2.ok.len; omega) i2 HI2.out).mono ?_
      rintro e wc ⟨ax2, nx2, cx2, rfl, hg, hb⟩
      have HG2 := Lib.hid hg
      have HBWwc := Lib.hid (bcall HBWwb.out hb)
      have Rwc := Lib.hid (Rwb.out.call hb)
      clear hg hb
      go_wp2_with fail
      refine (ref_sameM (getR t s) (getR u s) _ _ _ _ _ _ _ (HWD.out.below HBWwc.out) (fun gs h => (HG1.out gs h).keep HBWwc.out) (fun gs h => (HG2.out gs h).keep HBWwc.out) (HR.out.2.1.right s) (HR.out.2.2.right s) _ _ HI1.out HI2.out).mono ?_
      rintro e we ⟨rfl, hb⟩
      have HBWwe := Lib.hid (bcall HBWwc.out hb)
      have Rwe := Lib.hid (Rwc.out.call hb)
      clear hb
      obtain ⟨q1, hq1⟩ : ∃ z, simO (getR t s) (getR u s) = z := ⟨_, rfl⟩
      have HQ1 := Lib.hid hq1
      rw [hq1]
      clear hq1
      cases q1
      · go_wp2_with fail
        refine (ref_sameM (getR o s) (getR u s) _ _ _ _ _ _ _ (HWD.out.below HBWwe.out) (fun gs h => (HG0.out gs h).keep HBWwe.out) (fun gs h => (HG2.out gs h).keep HBWwe.out) (HR.out.1.right s) (HR.out.2.2.right s) _ _ HI0.out HI2.out).mono ?_
        rintro e wf ⟨rfl, hb⟩
        have HBWwf := Lib.hid (bcall HBWwe.out hb)
        have Rwf := Lib.hid (Rwe.out.call hb)
        clear hb
        obtain ⟨q2, hq2⟩ : ∃ z, simO (getR o s) (getR u s) = z := ⟨_, rfl⟩
        have HQ2 := Lib.hid hq2
        rw [hq2]
        clear hq2
        cases q2
        · go_wp2_with fail
          refine (ref_sameM (getR o s) (getR t s) _ _ _ _ _ _ _ (HWD.out.below HBWwf.out) (fun gs h => (HG0.out gs h).keep HBWwf.out) (fun gs h => (HG1.out gs h).keep HBWwf.out) (HR.out.1.right s) (HR.out.2.1.right s) _ _ HI0.out HI1.out).mono ?_
          rintro e wg ⟨rfl, hb⟩
          have HBWwg := Lib.hid (bcall HBWwf.out hb)
          have Rwg := Lib.hid (Rwf.out.call hb)
          clear hb
          obtain ⟨q3, hq3⟩ : ∃ z, simO (getR o s) (getR t s) = z := ⟨_, rfl⟩
          have HQ3 := Lib.hid hq3
          rw [hq3]
          clear hq3
          cases q3
          · have HKL : Hid (ks.length ≤ 1500) := Lib.hid (by
              rw [Rwg.out.ks]
              have h1 := List.length_filter_le (fun x => confM (getR o x) (getR t x) (getR u x)) (S.take k)
              rw [List.length_take] at h1
              have := HSn.out.2
              omega)
            have owng := Rwg.out.cf
            go_wp2_with (at_builtin; refine str_append (B := w9.heap.size) (p := s) rfl (.tmp 48) (.tmp 50) rfl rfl wg.heap.size rfl (owng.keep (bnew (Below.refl _ _))) (Bx.new _ _ _) (by have := HKL.out; omega) (by have := Rwg.out.kx.size; rw [szA]; omega) ?_)
            intro v' wh ownh ap
            have HA4 : Hid (Kx p9 w9 wh ∧ Bx wh p9 57 #[v9] ∧ RfR W w9.heap.size wh v9 Z ∧ OwnS w9.heap.size wh v' (ks ++ [s]) ∧ ∀ g, v'.ownBlock = some g → v9.ownBlock ≠ some g) := Lib.hid (by
              have hvb := fun g hg => (OwnS.base owng g hg).1
              have hp := Rwg.out.p9
              refine ⟨(Rwg.out.kx.call (bnew (Below.refl _ _))).grown ap.grown hvb, ap.bx (Rwg.out.bx.alloc _) (fun e => by have := hvb p9 e; omega), Rwg.out.rw.keepg fun g hg hlt => (ap.grown.block g (by rw [szA]; omega) (fun e => Rwg.out.ap g e.symm hg)).trans (heap_alloc_old _ _ hlt), ownh, fun g hg e => ?_⟩
              obtain ⟨g2, cap2, m2, e1, e2, _, _⟩ := ap.at_
              rw [e1] at hg
              have e3 : g2 = g := by simpa [Value.ownBlock] using hg
              rcases e2 with e2 | e2
              · exact Rwg.out.ap g (by rw [e2, e3]) e
              · try rw [szA] at e2
                have := (Rwg.out.rw.base g e).2
                omega)
            clear ap owng ownh
            obtain ⟨ksn, hksn⟩ : ∃ z, ks ++ [s] = z := ⟨_, rfl⟩
            have RC : Hid (Kx p9 w9 wh ∧ Bx wh p9 57 #[v9] ∧ RfR W w9.heap.size wh v9 Z ∧ OwnS w9.heap.size wh v' ksn ∧ (∀ g, (v').ownBlock = some g → v9.ownBlock ≠ some g) ∧ ksn = (S.take (k + 1)).filter (fun x => confM (getR o x) (getR t x) (getR u x))) := Lib.hid (by
              rw [← hksn]
              refine ⟨HA4.out.1, HA4.out.2.1, HA4.out.2.2.1, HA4.out.2.2.2.1, HA4.out.2.2.2.2, ?_⟩
              rw [Rwg.out.ks, List.take_add_one, HSK.out.1, List.filter_append]
              have hf : confM (getR o s) (getR t s) (getR u s) = true := by
                unfold confM
                rw [HQ1.out, HQ2.out, HQ3.out]
                rfl
              simp [hf])
            have HSt := Rwg
            clear hksn
            have HPK : Hid (pickR (getR o s) (getR t s) (getR u s) = getR t s) := Lib.hid (by
              unfold pickR
              rw [HQ1.out, HQ2.out, HQ3.out]
              simp)
            cases i1
            · have hno : Hid (pickR (getR o s) (getR t s) (getR u s) = none) := Lib.hid (by
                rw [HPK.out]
                have h := HI1.out
                revert h
                cases getR t s <;> simp)
              have HJ : Hid (RS W w9 p9 o t u S (k + 1) wh v' ksn v9 Z) := Lib.hid ⟨RC.out.1, RC.out.2.1, RC.out.2.2.1, RC.out.2.2.2.1, RC.out.2.2.2.2.1, RC.out.2.2.2.2.2, by
                rw [HSt.out.zs, List.take_add_one, HSK.out.1, rowsOf_append]
                show _ = rowsOf (fun x => pickR (getR o x) (getR t x) (getR u x)) (S.take k) ++ rowsOf (fun x => pickR (getR o x) (getR t x) (getR u x)) [s]
                rw [rowsOf_cons, hno.out]
                simp [rowsOf], HSt.out.p9⟩
              have hc := Lib.hid RC.out.2.2.2.1
              clear RC
              go_wp2_with fail
              go_roundw
              case rel => exact ⟨k + 1, ksn, v9, Z, by omega, by go_num, HJ⟩
              case measure => simp [RowKit.intOf]; omega
            · obtain ⟨gs, hgs⟩ : ∃ gs, getR t s = some gs := Option.isSome_iff_exists.1 HI1.out
              have HGS : Hid (pickR (getR o s) (getR t s) (getR u s) = some gs ∧ SlG W (.slice ax1 nx1 cx1) gs) := Lib.hid ⟨HPK.out.trans hgs, HG1.out gs hgs⟩
              have HZL : Hid (Z.length ≤ 1500) := Lib.hid (rf_zlen HSt.out.zs HSn.out.2)
              obtain ⟨q9, f9, _⟩ := RC.out.2.1.all
              have q90 := q9 0
              have f90 := f9 0
              simp only [List.getElem?_toArray, List.getElem?_cons_zero] at q90
              clear hgs q9
              go_wp2_with (at_builtin; refine row_append (B := w9.heap.size) (Z := Z) (nm := s) (gv := .slice ax1 nx1 cx1) rfl (.tmp 76) (.tmp 80) rfl rfl wh.heap.size 1 rfl (own_keepg RC.out.2.2.1.own fun g _ hg => heap_alloc_old _ _ hg) (Bx.new _ _ _) rfl (by have := HZL.out; omega) (by have := RC.out.1.size; rw [szA]; omega) ?_)
              intro g' c' n' wz hn' hA
              have HZ' : Hid (RS W w9 p9 o t u S (k + 1) (wz.setCell ⟨p9, 0, none⟩ (.slice (some ⟨g', 0, none⟩) n' c')) v' ksn (.slice (some ⟨g', 0, none⟩) n' c') (Z ++ [(s, .slice ax1 nx1 cx1, gs)]) ∧ Bx wz p9 57 #[v9]) := Lib.hid (by
                have hgr := hA.out.2.1
                have hb9 := RC.out.2.2.1.base
                have hv9 : ∀ g, v9.ownBlock = some g → w9.heap.size ≤ g := fun g hg => (hb9 g hg).1
                have hp := HSt.out.p9
                have hkw : Kx p9 w9 wz := (RC.out.1.call (bnew (ob := .cells #[.string s, .slice ax1 nx1 cx1] 89) (Below.refl _ _))).grown hgr hv9
                have hbx : Bx wz p9 57 #[v9] := (hgr.block p9 (by have := RC.out.2.1.lt; rw [szA]; omega) (fun e => by have := hv9 p9 e.symm; omega)).trans (RC.out.2.1.alloc _)
                have hwB : w9.heap.size ≤ wh.heap.size := RC.out.1.size
                have hg'B : w9.heap.size ≤ g' := by
                  rcases hA.out.2.2 with e | e
                  · exact hv9 g' e
                  · try rw [szA] at e
                    omega
                have hcf : OwnS w9.heap.size wz v' ksn := own_keepg RC.out.2.2.2.1 fun g hg hlt => (hgr.block g (by rw [szA]; omega) (fun e => RC.out.2.2.2.2.1 g hg e.symm)).trans (heap_alloc_old _ _ hlt)
                refine ⟨⟨hkw.put, by have := hbx.set 0 (.slice (some ⟨g', 0, none⟩) n' c'); simpa using this, ⟨?_, fun z hz => ?_⟩, own_keepg hcf fun g hg _ => Below.heap_setCell _ _ _ _ (by have := (OwnS.base hcf g hg).1; dsimp only; omega), fun g hg e => ?_, RC.out.2.2.2.2.2, ?_, hp⟩, hbx⟩
                · rw [rzC_append, List.length_append]
                  refine own_keepg (w := wz) ?_ fun g hg _ => Below.heap_setCell _ _ _ _ (by
                    have e : g' = g := by simpa [Value.ownBlock] using hg
                    dsimp only; omega)
                  exact hA.out.1
                · rcases List.mem_append.1 hz with hz | hz
                  · exact RC.out.2.2.1.gr z hz
                  · rw [List.mem_singleton.1 hz]; exact HGS.out.2
                · have e2 : g' = g := by simpa [Value.ownBlock] using e
                  rcases hA.out.2.2 with e3 | e3
                  · exact RC.out.2.2.2.2.1 g hg (by rw [e3, e2])
                  · try rw [szA] at e3
                    have := (OwnS.base RC.out.2.2.2.1 g hg).2
                    omega
                · rw [rzR_append, HSt.out.zs, List.take_add_one, HSK.out.1, rowsOf_append]
                  congr 1
                  show [(s, gs)] = rowsOf (fun x => pickR (getR o x) (getR t x) (getR u x)) [s]
                  rw [rowsOf_cons, HGS.out.1]
                  rfl)
              obtain ⟨q9, f9', _⟩ := HZ'.out.2.all
              have q91 := q9 0
              have f91 := f9' 0
              simp only [List.getElem?_toArray, List.getElem?_cons_zero] at q91
              clear q90 f90 f9 hA RC q9 f9'
              go_wp2_with fail
              go_roundw
              case rel => exact ⟨k + 1, ksn, _, _, by omega, by go_num, HZ'.out.1⟩
              case measure => simp [RowKit.intOf]; omega
          · obtain ⟨ksn, hksn⟩ : ∃ z, ks = z := ⟨_, rfl⟩
            have RC : Hid (Kx p9 w9 wg ∧ Bx wg p9 57 #[v9] ∧ RfR W w9.heap.size wg v9 Z ∧ OwnS w9.heap.size wg u10 ksn ∧ (∀ g, (u10).ownBlock = some g → v9.ownBlock ≠ some g) ∧ ksn = (S.take (k + 1)).filter (fun x => confM (getR o x) (getR t x) (getR u x))) := Lib.hid (by
              rw [← hksn]
              refine ⟨Rwg.out.kx, Rwg.out.bx, Rwg.out.rw, Rwg.out.cf, Rwg.out.ap, ?_⟩
              rw [Rwg.out.ks, List.take_add_one, HSK.out.1, List.filter_append]
              have hf : confM (getR o s) (getR t s) (getR u s) = false := by
                unfold confM
                rw [HQ1.out, HQ2.out, HQ3.out]
                simp
              simp [hf])
            have HSt := Rwg
            clear hksn
            have HPK : Hid (pickR (getR o s) (getR t s) (getR u s) = getR u s) := Lib.hid (by
              unfold pickR
              rw [HQ1.out, HQ2.out, HQ3.out]
              simp)
            cases i2
            · have hno : Hid (pickR (getR o s) (getR t s) (getR u s) = none) := Lib.hid (by
                rw [HPK.out]
                have h := HI2.out
                revert h
                cases getR u s <;> simp)
              have HJ : Hid (RS W w9 p9 o t u S (k + 1) wg u10 ksn v9 Z) := Lib.hid ⟨RC.out.1, RC.out.2.1, RC.out.2.2.1, RC.out.2.2.2.1, RC.out.2.2.2.2.1, RC.out.2.2.2.2.2, by
                rw [HSt.out.zs, List.take_add_one, HSK.out.1, rowsOf_append]
                show _ = rowsOf (fun x => pickR (getR o x) (getR t x) (getR u x)) (S.take k) ++ rowsOf (fun x => pickR (getR o x) (getR t x) (getR u x)) [s]
                rw [rowsOf_cons, hno.out]
                simp [rowsOf], HSt.out.p9⟩
              have hc := Lib.hid RC.out.2.2.2.1
              clear RC
              go_wp2_with fail
              go_roundw
              case rel => exact ⟨k + 1, ksn, v9, Z, by omega, by go_num, HJ⟩
              case measure => simp [RowKit.intOf]; omega
            · obtain ⟨gs, hgs⟩ : ∃ gs, getR u s = some gs := Option.isSome_iff_exists.1 HI2.out
              have HGS : Hid (pickR (getR o s) (getR t s) (getR u s) = some gs ∧ SlG W (.slice ax2 nx2 cx2) gs) := Lib.hid ⟨HPK.out.trans hgs, HG2.out gs hgs⟩
              have HZL : Hid (Z.length ≤ 1500) := Lib.hid (rf_zlen HSt.out.zs HSn.out.2)
              obtain ⟨q9, f9, _⟩ := RC.out.2.1.all
              have q90 := q9 0
              have f90 := f9 0
              simp only [List.getElem?_toArray, List.getElem?_cons_zero] at q90
              clear hgs q9
              go_wp2_with (at_builtin; refine row_append (B := w9.heap.size) (Z := Z) (nm := s) (gv := .slice ax2 nx2 cx2) rfl (.tmp 76) (.tmp 80) rfl rfl wg.heap.size 1 rfl (own_keepg RC.out.2.2.1.own fun g _ hg => heap_alloc_old _ _ hg) (Bx.new _ _ _) rfl (by have := HZL.out; omega) (by have := RC.out.1.size; rw [szA]; omega) ?_)
              intro g' c' n' wz hn' hA
              have HZ' : Hid (RS W w9 p9 o t u S (k + 1) (wz.setCell ⟨p9, 0, none⟩ (.slice (some ⟨g', 0, none⟩) n' c')) u10 ksn (.slice (some ⟨g', 0, none⟩) n' c') (Z ++ [(s, .slice ax2 nx2 cx2, gs)]) ∧ Bx wz p9 57 #[v9]) := Lib.hid (by
                have hgr := hA.out.2.1
                have hb9 := RC.out.2.2.1.base
                have hv9 : ∀ g, v9.ownBlock = some g → w9.heap.size ≤ g := fun g hg => (hb9 g hg).1
                have hp := HSt.out.p9
                have hkw : Kx p9 w9 wz := (RC.out.1.call (bnew (ob := .cells #[.string s, .slice ax2 nx2 cx2] 89) (Below.refl _ _))).grown hgr hv9
                have hbx : Bx wz p9 57 #[v9] := (hgr.block p9 (by have := RC.out.2.1.lt; rw [szA]; omega) (fun e => by have := hv9 p9 e.symm; omega)).trans (RC.out.2.1.alloc _)
                have hwB : w9.heap.size ≤ wg.heap.size := RC.out.1.size
                have hg'B : w9.heap.size ≤ g' := by
                  rcases hA.out.2.2 with e | e
                  · exact hv9 g' e
                  · try rw [szA] at e
                    omega
                have hcf : OwnS w9.heap.size wz u10 ksn := own_keepg RC.out.2.2.2.1 fun g hg hlt => (hgr.block g (by rw [szA]; omega) (fun e => RC.out.2.2.2.2.1 g hg e.symm)).trans (heap_alloc_old _ _ hlt)
                refine ⟨⟨hkw.put, by have := hbx.set 0 (.slice (some ⟨g', 0, none⟩) n' c'); simpa using this, ⟨?_, fun z hz => ?_⟩, own_keepg hcf fun g hg _ => Below.heap_setCell _ _ _ _ (by have := (OwnS.base hcf g hg).1; dsimp only; omega), fun g hg e => ?_, RC.out.2.2.2.2.2, ?_, hp⟩, hbx⟩
                · rw [rzC_append, List.length_append]
                  refine own_keepg (w := wz) ?_ fun g hg _ => Below.heap_setCell _ _ _ _ (by
                    have e : g' = g := by simpa [Value.ownBlock] using hg
                    dsimp only; omega)
                  exact hA.out.1
                · rcases List.mem_append.1 hz with hz | hz
                  · exact RC.out.2.2.1.gr z hz
                  · rw [List.mem_singleton.1 hz]; exact HGS.out.2
                · have e2 : g' = g := by simpa [Value.ownBlock] using e
                  rcases hA.out.2.2 with e3 | e3
                  · exact RC.out.2.2.2.2.1 g hg (by rw [e3, e2])
                  · try rw [szA] at e3
                    have := (OwnS.base RC.out.2.2.2.1 g hg).2
                    omega
                · rw [rzR_append, HSt.out.zs, List.take_add_one, HSK.out.1, rowsOf_append]
                  congr 1
                  show [(s, gs)] = rowsOf (fun x => pickR (getR o x) (getR t x) (getR u x)) [s]
                  rw [rowsOf_cons, HGS.out.1]
                  rfl)
              obtain ⟨q9, f9', _⟩ := HZ'.out.2.all
              have q91 := q9 0
              have f91 := f9' 0
              simp only [List.getElem?_toArray, List.getElem?_cons_zero] at q91
              clear q90 f90 f9 hA RC q9 f9'
              go_wp2_with fail
              go_roundw
              case rel => exact ⟨k + 1, ksn, _, _, by omega, by go_num, HZ'.out.1⟩
              case measure => simp [RowKit.intOf]; omega
        · obtain ⟨ksn, hksn⟩ : ∃ z, ks = z := ⟨_, rfl⟩
          have RC : Hid (Kx p9 w9 wf ∧ Bx wf p9 57 #[v9] ∧ RfR W w9.heap.size wf v9 Z ∧ OwnS w9.heap.size wf u10 ksn ∧ (∀ g, (u10).ownBlock = some g → v9.ownBlock ≠ some g) ∧ ksn = (S.take (k + 1)).filter (fun x => confM (getR o x) (getR t x) (getR u x))) := Lib.hid (by
            rw [← hksn]
            refine ⟨Rwf.out.kx, Rwf.out.bx, Rwf.out.rw, Rwf.out.cf, Rwf.out.ap, ?_⟩
            rw [Rwf.out.ks, List.take_add_one, HSK.out.1, List.filter_append]
            have hf : confM (getR o s) (getR t s) (getR u s) = false := by
              unfold confM
              rw [HQ1.out, HQ2.out]
              simp
            simp [hf])
          have HSt := Rwf
          clear hksn
          have HPK : Hid (pickR (getR o s) (getR t s) (getR u s) = getR t s) := Lib.hid (by
            unfold pickR
            rw [HQ1.out, HQ2.out]
            simp)
          cases i1
          · have hno : Hid (pickR (getR o s) (getR t s) (getR u s) = none) := Lib.hid (by
              rw [HPK.out]
              have h := HI1.out
              revert h
              cases getR t s <;> simp)
            have HJ : Hid (RS W w9 p9 o t u S (k + 1) wf u10 ksn v9 Z) := Lib.hid ⟨RC.out.1, RC.out.2.1, RC.out.2.2.1, RC.out.2.2.2.1, RC.out.2.2.2.2.1, RC.out.2.2.2.2.2, by
              rw [HSt.out.zs, List.take_add_one, HSK.out.1, rowsOf_append]
              show _ = rowsOf (fun x => pickR (getR o x) (getR t x) (getR u x)) (S.take k) ++ rowsOf (fun x => pickR (getR o x) (getR t x) (getR u x)) [s]
              rw [rowsOf_cons, hno.out]
              simp [rowsOf], HSt.out.p9⟩
            have hc := Lib.hid RC.out.2.2.2.1
            clear RC
            go_wp2_with fail
            go_roundw
            case rel => exact ⟨k + 1, ksn, v9, Z, by omega, by go_num, HJ⟩
            case measure => simp [RowKit.intOf]; omega
          · obtain ⟨gs, hgs⟩ : ∃ gs, getR t s = some gs := Option.isSome_iff_exists.1 HI1.out
            have HGS : Hid (pickR (getR o s) (getR t s) (getR u s) = some gs ∧ SlG W (.slice ax1 nx1 cx1) gs) := Lib.hid ⟨HPK.out.trans hgs, HG1.out gs hgs⟩
            have HZL : Hid (Z.length ≤ 1500) := Lib.hid (rf_zlen HSt.out.zs HSn.out.2)
            obtain ⟨q9, f9, _⟩ := RC.out.2.1.all
            have q90 := q9 0
            have f90 := f9 0
            simp only [List.getElem?_toArray, List.getElem?_cons_zero] at q90
            clear hgs q9
            go_wp2_with (at_builtin; refine row_append (B := w9.heap.size) (Z := Z) (nm := s) (gv := .slice ax1 nx1 cx1) rfl (.tmp 76) (.tmp 80) rfl rfl wf.heap.size 1 rfl (own_keepg RC.out.2.2.1.own fun g _ hg => heap_alloc_old _ _ hg) (Bx.new _ _ _) rfl (by have := HZL.out; omega) (by have := RC.out.1.size; rw [szA]; omega) ?_)
            intro g' c' n' wz hn' hA
            have HZ' : Hid (RS W w9 p9 o t u S (k + 1) (wz.setCell ⟨p9, 0, none⟩ (.slice (some ⟨g', 0, none⟩) n' c')) u10 ksn (.slice (some ⟨g', 0, none⟩) n' c') (Z ++ [(s, .slice ax1 nx1 cx1, gs)]) ∧ Bx wz p9 57 #[v9]) := Lib.hid (by
              have hgr := hA.out.2.1
              have hb9 := RC.out.2.2.1.base
              have hv9 : ∀ g, v9.ownBlock = some g → w9.heap.size ≤ g := fun g hg => (hb9 g hg).1
              have hp := HSt.out.p9
              have hkw : Kx p9 w9 wz := (RC.out.1.call (bnew (ob := .cells #[.string s, .slice ax1 nx1 cx1] 89) (Below.refl _ _))).grown hgr hv9
              have hbx : Bx wz p9 57 #[v9] := (hgr.block p9 (by have := RC.out.2.1.lt; rw [szA]; omega) (fun e => by have := hv9 p9 e.symm; omega)).trans (RC.out.2.1.alloc _)
              have hwB : w9.heap.size ≤ wf.heap.size := RC.out.1.size
              have hg'B : w9.heap.size ≤ g' := by
                rcases hA.out.2.2 with e | e
                · exact hv9 g' e
                · try rw [szA] at e
                  omega
              have hcf : OwnS w9.heap.size wz u10 ksn := own_keepg RC.out.2.2.2.1 fun g hg hlt => (hgr.block g (by rw [szA]; omega) (fun e => RC.out.2.2.2.2.1 g hg e.symm)).trans (heap_alloc_old _ _ hlt)
              refine ⟨⟨hkw.put, by have := hbx.set 0 (.slice (some ⟨g', 0, none⟩) n' c'); simpa using this, ⟨?_, fun z hz => ?_⟩, own_keepg hcf fun g hg _ => Below.heap_setCell _ _ _ _ (by have := (OwnS.base hcf g hg).1; dsimp only; omega), fun g hg e => ?_, RC.out.2.2.2.2.2, ?_, hp⟩, hbx⟩
              · rw [rzC_append, List.length_append]
                refine own_keepg (w := wz) ?_ fun g hg _ => Below.heap_setCell _ _ _ _ (by
                  have e : g' = g := by simpa [Value.ownBlock] using hg
                  dsimp only; omega)
                exact hA.out.1
              · rcases List.mem_append.1 hz with hz | hz
                · exact RC.out.2.2.1.gr z hz
                · rw [List.mem_singleton.1 hz]; exact HGS.out.2
              · have e2 : g' = g := by simpa [Value.ownBlock] using e
                rcases hA.out.2.2 with e3 | e3
                · exact RC.out.2.2.2.2.1 g hg (by rw [e3, e2])
                · try rw [szA] at e3
                  have := (OwnS.base RC.out.2.2.2.1 g hg).2
                  omega
              · rw [rzR_append, HSt.out.zs, List.take_add_one, HSK.out.1, rowsOf_append]
                congr 1
                show [(s, gs)] = rowsOf (fun x => pickR (getR o x) (getR t x) (getR u x)) [s]
                rw [rowsOf_cons, HGS.out.1]
                rfl)
            obtain ⟨q9, f9', _⟩ := HZ'.out.2.all
            have q91 := q9 0
            have f91 := f9' 0
            simp only [List.getElem?_toArray, List.getElem?_cons_zero] at q91
            clear q90 f90 f9 hA RC q9 f9'
            go_wp2_with fail
            go_roundw
            case rel => exact ⟨k + 1, ksn, _, _, by omega, by go_num, HZ'.out.1⟩
            case measure => simp [RowKit.intOf]; omega
      · obtain ⟨ksn, hksn⟩ : ∃ z, ks = z := ⟨_, rfl⟩
        have RC : Hid (Kx p9 w9 we ∧ Bx we p9 57 #[v9] ∧ RfR W w9.heap.size we v9 Z ∧ OwnS w9.heap.size we u10 ksn ∧ (∀ g, (u10).ownBlock = some g → v9.ownBlock ≠ some g) ∧ ksn = (S.take (k + 1)).filter (fun x => confM (getR o x) (getR t x) (getR u x))) := Lib.hid (by
          rw [← hksn]
          refine ⟨Rwe.out.kx, Rwe.out.bx, Rwe.out.rw, Rwe.out.cf, Rwe.out.ap, ?_⟩
          rw [Rwe.out.ks, List.take_add_one, HSK.out.1, List.filter_append]
          have hf : confM (getR o s) (getR t s) (getR u s) = false := by
            unfold confM
            rw [HQ1.out]
            simp
          simp [hf])
        have HSt := Rwe
        clear hksn
        have HPK : Hid (pickR (getR o s) (getR t s) (getR u s) = getR t s) := Lib.hid (by
          unfold pickR
          rw [HQ1.out]
          simp)
        cases i1
        · have hno : Hid (pickR (getR o s) (getR t s) (getR u s) = none) := Lib.hid (by
            rw [HPK.out]
            have h := HI1.out
            revert h
            cases getR t s <;> simp)
          have HJ : Hid (RS W w9 p9 o t u S (k + 1) we u10 ksn v9 Z) := Lib.hid ⟨RC.out.1, RC.out.2.1, RC.out.2.2.1, RC.out.2.2.2.1, RC.out.2.2.2.2.1, RC.out.2.2.2.2.2, by
            rw [HSt.out.zs, List.take_add_one, HSK.out.1, rowsOf_append]
            show _ = rowsOf (fun x => pickR (getR o x) (getR t x) (getR u x)) (S.take k) ++ rowsOf (fun x => pickR (getR o x) (getR t x) (getR u x)) [s]
            rw [rowsOf_cons, hno.out]
            simp [rowsOf], HSt.out.p9⟩
          have hc := Lib.hid RC.out.2.2.2.1
          clear RC
          go_wp2_with fail
          go_roundw
          case rel => exact ⟨k + 1, ksn, v9, Z, by omega, by go_num, HJ⟩
          case measure => simp [RowKit.intOf]; omega
        · obtain ⟨gs, hgs⟩ : ∃ gs, getR t s = some gs := Option.isSome_iff_exists.1 HI1.out
          have HGS : Hid (pickR (getR o s) (getR t s) (getR u s) = some gs ∧ SlG W (.slice ax1 nx1 cx1) gs) := Lib.hid ⟨HPK.out.trans hgs, HG1.out gs hgs⟩
          have HZL : Hid (Z.length ≤ 1500) := Lib.hid (rf_zlen HSt.out.zs HSn.out.2)
          obtain ⟨q9, f9, _⟩ := RC.out.2.1.all
          have q90 := q9 0
          have f90 := f9 0
          simp only [List.getElem?_toArray, List.getElem?_cons_zero] at q90
          clear hgs q9
          go_wp2_with (at_builtin; refine row_append (B := w9.heap.size) (Z := Z) (nm := s) (gv := .slice ax1 nx1 cx1) rfl (.tmp 76) (.tmp 80) rfl rfl we.heap.size 1 rfl (own_keepg RC.out.2.2.1.own fun g _ hg => heap_alloc_old _ _ hg) (Bx.new _ _ _) rfl (by have := HZL.out; omega) (by have := RC.out.1.size; rw [szA]; omega) ?_)
          intro g' c' n' wz hn' hA
          have HZ' : Hid (RS W w9 p9 o t u S (k + 1) (wz.setCell ⟨p9, 0, none⟩ (.slice (some ⟨g', 0, none⟩) n' c')) u10 ksn (.slice (some ⟨g', 0, none⟩) n' c') (Z ++ [(s, .slice ax1 nx1 cx1, gs)]) ∧ Bx wz p9 57 #[v9]) := Lib.hid (by
            have hgr := hA.out.2.1
            have hb9 := RC.out.2.2.1.base
            have hv9 : ∀ g, v9.ownBlock = some g → w9.heap.size ≤ g := fun g hg => (hb9 g hg).1
            have hp := HSt.out.p9
            have hkw : Kx p9 w9 wz := (RC.out.1.call (bnew (ob := .cells #[.string s, .slice ax1 nx1 cx1] 89) (Below.refl _ _))).grown hgr hv9
            have hbx : Bx wz p9 57 #[v9] := (hgr.block p9 (by have := RC.out.2.1.lt; rw [szA]; omega) (fun e => by have := hv9 p9 e.symm; omega)).trans (RC.out.2.1.alloc _)
            have hwB : w9.heap.size ≤ we.heap.size := RC.out.1.size
            have hg'B : w9.heap.size ≤ g' := by
              rcases hA.out.2.2 with e | e
              · exact hv9 g' e
              · try rw [szA] at e
                omega
            have hcf : OwnS w9.heap.size wz u10 ksn := own_keepg RC.out.2.2.2.1 fun g hg hlt => (hgr.block g (by rw [szA]; omega) (fun e => RC.out.2.2.2.2.1 g hg e.symm)).trans (heap_alloc_old _ _ hlt)
            refine ⟨⟨hkw.put, by have := hbx.set 0 (.slice (some ⟨g', 0, none⟩) n' c'); simpa using this, ⟨?_, fun z hz => ?_⟩, own_keepg hcf fun g hg _ => Below.heap_setCell _ _ _ _ (by have := (OwnS.base hcf g hg).1; dsimp only; omega), fun g hg e => ?_, RC.out.2.2.2.2.2, ?_, hp⟩, hbx⟩
            · rw [rzC_append, List.length_append]
              refine own_keepg (w := wz) ?_ fun g hg _ => Below.heap_setCell _ _ _ _ (by
                have e : g' = g := by simpa [Value.ownBlock] using hg
                dsimp only; omega)
              exact hA.out.1
            · rcases List.mem_append.1 hz with hz | hz
              · exact RC.out.2.2.1.gr z hz
              · rw [List.mem_singleton.1 hz]; exact HGS.out.2
            · have e2 : g' = g := by simpa [Value.ownBlock] using e
              rcases hA.out.2.2 with e3 | e3
              · exact RC.out.2.2.2.2.1 g hg (by rw [e3, e2])
              · try rw [szA] at e3
                have := (OwnS.base RC.out.2.2.2.1 g hg).2
                omega
            · rw [rzR_append, HSt.out.zs, List.take_add_one, HSK.out.1, rowsOf_append]
              congr 1
              show [(s, gs)] = rowsOf (fun x => pickR (getR o x) (getR t x) (getR u x)) [s]
              rw [rowsOf_cons, HGS.out.1]
              rfl)
          obtain ⟨q9, f9', _⟩ := HZ'.out.2.all
          have q91 := q9 0
          have f91 := f9' 0
          simp only [List.getElem?_toArray, List.getElem?_cons_zero] at q91
          clear q90 f90 f9 hA RC q9 f9'
          go_wp2_with fail
          go_roundw
          case rel => exact ⟨k + 1, ksn, _, _, by omega, by go_num, HZ'.out.1⟩
          case measure => simp [RowKit.intOf]; omega
    · obtain rfl : n = k := by omega
      obtain ⟨a9, c9, hv9⟩ := Rwr.out.rw.form
      obtain ⟨m, hm⟩ : ∃ m, Z.length = m := ⟨_, rfl⟩
      rw [hm] at hv9
      subst hv9
      have eR : rzR Z = outR o t u := by
        have h1 := Rwr.out.zs
        rw [← HSn.out.1, List.take_length] at h1
        rw [h1]; unfold outR; rw [HSS.out]
      have HM : Hid (Z.length = m ∧ (outR o t u).length = m ∧ rzR Z = outR o t u) := Lib.hid ⟨hm, by rw [← eR, rzR_len]; exact hm, eR⟩
      have x6r := Rwr.out.kx.bx Y6.out (by have := HPL.out; omega)
      have HBr : Hid (Below W.heap.size W wr) := Lib.hid (below_kx HBW9.out Rwr.out.kx (by have := HPL.out; omega) HBW9.out.size)
      have q9 := Rwr.out.bx.all.1 0
      obtain ⟨q6, f6, _⟩ := x6r.all
      have q60 := q6 0
      have f60 := f6 0
      simp only [List.getElem?_toArray, List.getElem?_cons_zero] at q60 q9
      clear hm eR q6 f6
      by_cases h5 : 500 < m
      · have hgt : decide ((m : Int) > 500) = true := decide_eq_true (by omega)
        have X7 : Hid (Bx (wr.setCell ⟨p6, 0, none⟩ (.slice none 0 0)) p6 57 #[.slice none 0 0]) := Lib.hid (by have := x6r.set 0 (.slice none 0 0); simpa using this)
        have HE : Hid (mErr 0 (outR o t u) = 4 ∧ Below W.heap.size W (wr.setCell ⟨p6, 0, none⟩ (.slice none 0 0))) := Lib.hid ⟨by
          unfold mErr
          rw [if_neg (by simp), HM.out.2.1, if_pos h5], bput (by have := HPP.out; omega) HBr.out⟩
        clear x6r
        go_wp2_with fail
        refine bodyPost_ret (v := .tuple #[.agg #[.slice none 0 0], .slice none 0 0, .int .i64 4]) (results_cell2 (p := 6) (q := 7) (r := 8) (ty := 57) (by kernel_rfl) _ _ p6 57 #[.slice none 0 0] (0, 0) _ _ _ rfl rfl rfl X7.out Tryz.underlying57 rfl (by kernel_rfl)) rfl ⟨.inl ?_, HE.out.2⟩
        rw [HE.out.1]
        exact ⟨by decide, rfl⟩
      · have hgt : decide ((m : Int) > 500) = false := decide_eq_false (by omega)
        have X7 : Hid (Bx (wr.setCell ⟨p6, 0, none⟩ (.slice a9 m c9)) p6 57 #[.slice a9 m c9]) := Lib.hid (by have := x6r.set 0 (.slice a9 m c9); simpa using this)
        have HE : Hid (mErr 0 (outR o t u) = 0 ∧ SlL (wr.setCell ⟨p6, 0, none⟩ (.slice a9 m c9)) (.slice a9 m c9) (outR o t u) ∧ OwnS W.heap.size (wr.setCell ⟨p6, 0, none⟩ (.slice a9 m c9)) u10 (confs o t u) ∧ Below W.heap.size W (wr.setCell ⟨p6, 0, none⟩ (.slice a9 m c9))) := Lib.hid (by
          have hb : Below W.heap.size W (wr.setCell ⟨p6, 0, none⟩ (.slice a9 m c9)) := bput (by have := HPP.out; omega) HBr.out
          refine ⟨?_, ?_, ?_, hb⟩
          · unfold mErr
            rw [if_neg (by simp), HM.out.2.1, if_neg h5]
          · rw [← HM.out.2.2]
            refine (Rwr.out.rw.keepg fun g hg _ => ?_).sl hb
            have h2 := (Rwr.out.rw.base g hg).1
            exact Below.heap_setCell _ _ _ _ (by have := HPL.out; dsimp only; omega)
          · have h1 : confs o t u = ks := by
              unfold confs
              rw [HSS.out, Rwr.out.ks, ← HSn.out.1, List.take_length]
            rw [h1]
            refine own_monoS (own_keepg Rwr.out.cf fun g hg hlt => ?_) (by have := HPL.out; omega)
            have h2 := (OwnS.base Rwr.out.cf g hg).1
            exact Below.heap_setCell _ _ _ _ (by have := HPL.out; dsimp only; omega))
        clear x6r
        go_wp2_with fail
        refine bodyPost_ret (v := .tuple #[.agg #[.slice a9 m c9], u10, .int .i64 0]) (results_cell2 (p := 6) (q := 7) (r := 8) (ty := 57) (by kernel_rfl) _ _ p6 57 #[.slice a9 m c9] (0, 0) _ _ _ rfl rfl rfl X7.out Tryz.underlying57 rfl (by kernel_rfl)) rfl ⟨.inr ⟨HE.out.1, _, _, rfl, HE.out.2.1, HE.out.2.2.1⟩, HE.out.2.2.2⟩
end Go.Proofs.YticekgnmiaidjaaGreatDoor
