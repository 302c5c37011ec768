/- dyeref1.Compare. (printed by gen_dac.py) -/
import Derived.Test.YtfkiljhjiogdlaaDoorDaK
import Derived.Test.YtfkiljhjiogdlaaDoorDaO
import Derived.Test.YtfkiljhjiogdlaaDoorDaR
import Derived.Test.YtfkiljhjiogdlaaDoorDaE
namespace Go.Proofs.YtfkiljhjiogdlaaDoor
open Go.RowKit

theorem marksR_snoc (es : List Ev) (j : Nat) (hj : j < es.length) : marksR (es.take (j + 1)) = marksR (es.take j) ++ (([(es.getD j default).pos, (es.getD j default).stop] ++ (List.range ((es.getD j default).len + 1).toNat).map fun (k : Nat) => (es.getD j default).pos + (k : Int))) := by
  induction es generalizing j with
  | nil => simp at hj
  | cons v r ih =>
    cases j with
    | zero => simp [marksR, List.getD]
    | succ j =>
      have hj' : j < r.length := by simpa using hj
      have := ih j hj'
      rw [List.take_succ_cons, marksR, this, List.take_succ_cons, marksR, List.append_assoc]
      simp [List.getD]
/-- What a list's events are bound by. -/
theorem ev_bounds {es : List Ev} (hok : evsTo es es.length = 0) {j : Nat} (hj : j < es.length) : 0 ≤ (es.getD j default).inn ∧ (es.getD j default).inn < (es.getD j default).out ∧ (es.getD j default).out ≤ 16777216 ∧ 0 ≤ (es.getD j default).pos ∧ (es.getD j default).pos ≤ 16777216 ∧ 0 ≤ (es.getD j default).len ∧ (es.getD j default).len ≤ 250 := by
  have hz := evsTo_zero es es.length hok j hj
  obtain ⟨-, -, b1, b2, b3, b4, b5, -⟩ := evErr_zero hz
  have := evErr_zero2 hz
  exact ⟨b1, b2, b3, b4, b5, by omega, by omega⟩
theorem atR_form (es : List Ev) (f : Int) : ∃ (e : Int) (r : ByteArray) (x : Int) (s : ByteArray) (g : Int) (h : Nat) (er : Int), atR es f = .tuple #[.agg #[.int .i64 e, .string r, .int .i64 x, .string s, .int .i64 g, .float .f32 h], .int .i64 er] ∧
    ((atK es f = none ∧ er = 11 ∧ r = ⟨#[]⟩ ∧ x = 0 ∧ s = ⟨#[]⟩ ∧ g = 0 ∧ h = 0) ∨ ∃ k, atK es f = some k ∧ er = 0 ∧ shOf es f k = ⟨r, x, s, g, h⟩) := by
  unfold atR
  cases hk : atK es f with
  | none => exact ⟨_, _, _, _, _, _, _, rfl, .inl ⟨rfl, rfl, rfl, rfl, rfl, rfl, rfl⟩⟩
  | some k => exact ⟨_, _, _, _, _, _, _, rfl, .inr ⟨k, rfl, rfl, rfl⟩⟩
theorem sh_word {es : List Ev} (hok : evsTo es es.length = 0) {f : Int} {k : Nat} (hk : atK es f = some k) : (shOf es f k).share < 4294967296 ∧ ∃ m i, rd (shOf es f k).share = .number false m i := by
  obtain ⟨k1, k2⟩ := atK_is hk
  obtain ⟨b1, b2, b3, b4, b5, b6, b7⟩ := ev_bounds hok k1
  unfold hit at k2
  simp only [Bool.and_eq_true, decide_eq_true_eq] at k2
  unfold shOf
  simp only []
  split
  · rename_i h
    obtain ⟨fa, hfa⟩ : ∃ fa : Nat, f - (es.getD k default).pos + 1 = (fa : Int) := ⟨(f - (es.getD k default).pos + 1).toNat, by omega⟩
    obtain ⟨la, hla⟩ : ∃ la : Nat, (es.getD k default).len + 1 = (la : Int) := ⟨((es.getD k default).len + 1).toNat, by omega⟩
    unfold shareB
    rw [hfa, hla]
    obtain ⟨_, m, i, h2⟩ := share_dbl (a := fa) (b := la) (by omega) (by omega) (by omega) (by omega)
    exact ⟨fop_lt .quo h2 (by simp), m, i, h2⟩
  · exact ⟨show 1065353216 < 4294967296 by decide, 8388608, -23, show rd 1065353216 = _ by decide⟩
/-- How the reference finds two frames alike. -/
theorem alike_ref {es ds : List Ev} (hok : evsTo es es.length = 0) (hod : evsTo ds ds.length = 0) {f : Int} {r1 s1 r2 s2 : ByteArray} {x1 g1 x2 g2 er1 er2 : Int} {h1 h2 : Nat}
    (c1 : (atK es f = none ∧ er1 = 11 ∧ r1 = ⟨#[]⟩ ∧ x1 = 0 ∧ s1 = ⟨#[]⟩ ∧ g1 = 0 ∧ h1 = 0) ∨ ∃ k, atK es f = some k ∧ er1 = 0 ∧ shOf es f k = ⟨r1, x1, s1, g1, h1⟩)
    (c2 : (atK ds f = none ∧ er2 = 11 ∧ r2 = ⟨#[]⟩ ∧ x2 = 0 ∧ s2 = ⟨#[]⟩ ∧ g2 = 0 ∧ h2 = 0) ∨ ∃ k, atK ds f = some k ∧ er2 = 0 ∧ shOf ds f k = ⟨r2, x2, s2, g2, h2⟩) :
    alike2 es ds f = ((er1 == er2) && ((er1 != 0) || (decide (r1 = r2) && (decide (x1 = x2) && (decide (s1 = s2) && (decide (g1 = g2) && FloatKind.f32.format.order h1 h2 == some .eq)))))) := by
  unfold alike2
  rcases c1 with ⟨a1, rfl, _⟩ | ⟨k, a1, rfl, a3⟩
  · rcases c2 with ⟨b1, rfl, _⟩ | ⟨j, b1, rfl, b3⟩
    · rw [a1, b1]; rfl
    · rw [a1, b1]; rfl
  · rcases c2 with ⟨b1, rfl, _⟩ | ⟨j, b1, rfl, b3⟩
    · rw [a1, b1]; rfl
    · rw [a1, b1]
      obtain ⟨w1, m1, i1, q1⟩ := sh_word hok a1
      obtain ⟨w2, m2, i2, q2⟩ := sh_word hod b1
      simp only []
      rw [a3] at w1 q1 ⊢
      rw [b3] at w2 q2 ⊢
      simp only [] at w1 w2 q1 q2
      have he : (FloatKind.f32.format.order h1 h2 == some .eq) = decide (h1 = h2) := by
        by_cases hh : h1 = h2
        · subst hh
          rw [decide_eq_true rfl]
          show ((rd h1).order (rd h1) == some .eq) = true
          rw [order_self (by rw [q1]; rfl)]; rfl
        · rw [decide_eq_false hh]
          cases ho : (FloatKind.f32.format.order h1 h2 == some .eq)
          · rfl
          · have ho2 : FloatKind.f32.format.order h1 h2 = some .eq := by simpa using ho
            exact absurd (pos_inj w1 w2 q1 q2 ho2) hh
      rw [he]
      simp [Sh.mk.injEq]
/-- What the reference's Compare gives. -/
def cmpR (ea eb : List Ev) : List (Int × Int) := rngs (marked ([0] ++ marksR ea ++ marksR eb)) (alike2 ea eb) ((marked ([0] ++ marksR ea ++ marksR eb)).length - 1)
theorem rngs_len (M : List Int) (al : Int → Bool) : ∀ k, (rngs M al k).length ≤ k
  | 0 => Nat.le_refl _
  | k + 1 => by
    have := rngs_len M al k
    unfold rngs stepR
    split
    · omega
    · split
      · rw [List.length_set]; omega
      · rw [List.length_append, List.length_singleton]; omega
theorem marksR_nonneg {es : List Ev} (hok : evsTo es es.length = 0) : ∀ x, x ∈ marksR es → 0 ≤ x := by
  intro x hx
  have hl : ∀ v, v ∈ es → 0 ≤ v.len ∧ 0 ≤ v.pos ∧ v.inn < v.out := by
    intro v hv
    obtain ⟨j, hj, e⟩ := List.mem_iff_getElem.1 hv
    have e : es.getD j default = v := by simp [List.getD, hj, e]
    obtain ⟨b1, b2, b3, b4, b5, b6, b7⟩ := ev_bounds hok hj
    rw [e] at b2 b4 b6
    exact ⟨b6, b4, b2⟩
  clear hok
  induction es with
  | nil => cases hx
  | cons v r ih =>
    unfold marksR at hx
    obtain ⟨h1, h2, h3⟩ := hl v (by simp)
    simp only [List.mem_append] at hx
    rcases hx with (hx | hx) | hx
    · have : x = v.pos ∨ x = v.stop := by simpa using hx
      unfold Ev.stop at this
      omega
    · obtain ⟨k, hk, rfl⟩ := List.mem_map.1 hx
      omega
    · exact ih hx (fun u hu => hl u (by simp [hu]))
theorem own_mono {w : World} {B B' : Nat} {e : TypeId} {s : Nat} {v : Value} {n : Nat} {xs : List Value} (h : w.ownsRow B e s v n xs) (hb : B' ≤ B) : w.ownsRow B' e s v n xs := by
  refine ⟨h.1, ?_⟩
  rcases h.2 with h0 | ⟨g, cap, cur, e1, e2, e3⟩
  · exact .inl h0
  · exact .inr ⟨g, cap, cur, e1, by omega, e3⟩
theorem stop_here {p : Prop} (h : Hid p) : p := h.out
theorem below_eq {w w0 : World} {ob : Obj} (h : w = w0.alloc ob) : Below w0.heap.size w0 w := by rw [h]; exact bnew (Below.refl _ _)
theorem Mk.form {B : Nat} {w : World} {v : Value} {zs : List Int} {K : List Nat} (h : Mk B w v zs K) : ∃ g cap, v = .slice (some ⟨g, 0, none⟩) zs.length cap ∧ Mk B w (.slice (some ⟨g, 0, none⟩) zs.length cap) zs K := by
  obtain ⟨g, cap, rfl, h1⟩ := h
  exact ⟨g, cap, rfl, g, cap, rfl, h1⟩
set_option maxRecDepth 100000 in
set_option maxHeartbeats 8000000 in
theorem ref_Compare (ta tb : ByteArray) (ra rb : Int) (va vb : Value) (ea eb : List Ev) (W : World) (ha : SlE W va ea) (hb : SlE W vb eb) (oka : evsTo ea ea.length = 0) (okb : evsTo eb eb.length = 0) (la : ea.length ≤ 500) (lb : eb.length ≤ 500) :
    Calls Tryd.prog 9 #[.agg #[.string ta, .int .i64 ra, va], .agg #[.string tb, .int .i64 rb, vb]] W fun e w' => ∃ v, e = .returned v ∧ OutR W.heap.size w' v (cmpR ea eb) ∧ Below W.heap.size W w' := by
  have hcm : cmpR ea eb = rngs (marked ([0] ++ marksR ea ++ marksR eb)) (alike2 ea eb) ((marked ([0] ++ marksR ea ++ marksR eb)).length - 1) := rfl
  generalize cmpR ea eb = CM at hcm ⊢
  have HCM := Lib.hid hcm
  clear hcm
  have HA := Lib.hid ha
  have HB := Lib.hid hb
  have Oa := Lib.hid oka
  have Ob := Lib.hid okb
  obtain ⟨aa, ca, rfl, hma, hfa⟩ := ha
  obtain ⟨ab, cb, rfl, hmb, hfb⟩ := hb
  obtain ⟨na, hna⟩ : ∃ n, n = ea.length := ⟨_, rfl⟩
  obtain ⟨nb, hnb⟩ : ∃ n, n = eb.length := ⟨_, rfl⟩
  rw [← hna] at hma la HA ⊢
  rw [← hnb] at hmb lb HB ⊢
  have Hna := Lib.hid hna
  have Hnb := Lib.hid hnb
  clear hna hnb oka okb hma hmb
  go_enter Tryd.func9, Tryd.ntmps9
  go_upto_region 4 with fail
  refine name_world ?_
  intro w0 hw0
  have x2 : Bx w0 W.heap.size 24 #[.string ta, .int .i64 ra, .slice aa na ca] := by rw [hw0]; exact (((Bx.new _ _ _).alloc _).alloc _).alloc _
  have x3 : Bx w0 (W.heap.size + 1) 24 #[.string tb, .int .i64 rb, .slice ab nb cb] := by rw [hw0]; exact ((Bx.at _ (by simp)).alloc _).alloc _
  have xm : Bx w0 (W.heap.size + 2) 3 #[.int .i64 0] := by rw [hw0]; exact (Bx.at _ (by simp)).alloc _
  have xl : Bx w0 (W.heap.size + 3) 24 #[.string ta, .int .i64 ra, .slice aa na ca, .string tb, .int .i64 rb, .slice ab nb cb] := by rw [hw0]; exact Bx.at _ (by simp)
  have B : Below W.heap.size W w0 := by rw [hw0]; exact bnew (bnew (bnew (bnew (Below.refl _ W))))
  have mk : Mk W.heap.size w0 (.slice (some ⟨W.heap.size + 2, 0, none⟩) 1 1) [0] [W.heap.size, W.heap.size + 1, W.heap.size + 3] := Mk.start xm rfl (by simp [maxLen]) (by omega) (by simp)
  clear hw0 xm
  obtain ⟨q2, f2, l2⟩ := x2.all
  obtain ⟨q3, f3, l3⟩ := x3.all
  obtain ⟨ql, fl, ll⟩ := xl.all
  refine wp_loop_rounds 3 ?_
  rw [rounds_succ]
  go_upto_region 7 with fail
  refine name_world ?_
  intro v0 hv0
  have hb9 := below_eq hv0
  clear hv0
  replace x2 := x2.keep hb9
  replace x3 := x3.keep hb9
  replace xl := xl.keep hb9
  replace mk := mk.below hb9
  replace B := bcall B hb9
  clear hb9 q2 f2 l2 q3 f3 l3 ql fl ll
  go_loopw [5, 6, 33] (fun s5 s6 i wr => ∃ (j : Nat) (L : Int) (zs : List Int), j ≤ na ∧ s5 = .int .i64 L ∧ i = .int .i64 (j : Int) ∧ Hid (zs = [0] ++ marksR (ea.take j)) ∧ Hid (L = 0 ∨ L ∈ zs) ∧ 0 ≤ L ∧ L ≤ 33554432 ∧ zs.length ≤ [0].length + 253 * j ∧ Mk W.heap.size wr s6 zs [W.heap.size, W.heap.size + 1, W.heap.size + 3] ∧ Bx wr W.heap.size 24 #[.string ta, .int .i64 ra, .slice aa na ca] ∧ Bx wr (W.heap.size + 1) 24 #[.string tb, .int .i64 rb, .slice ab nb cb] ∧ Bx wr (W.heap.size + 3) 24 #[.string ta, .int .i64 ra, .slice aa na ca, .string tb, .int .i64 rb, .slice ab nb cb] ∧ Below W.heap.size W wr) (fun _ _ i _ => na - (intOf i).toNat)
  case atStart => exact ⟨0, 0, [0], by omega, rfl, rfl, Lib.hid (by simp [marksR]), Lib.hid (.inl rfl), by omega, by omega, by simp, mk, x2, x3, xl, B⟩
  case round =>
    clear x2 x3 xl mk B
    obtain ⟨j, L, zs, hj, rfl, rfl, hz, hL, L0, L1, hlen, mk, x2, x3, xl, B⟩ := hrel
    by_cases hlt : j < na
    · rcases hfa with h0 | ⟨b, o, rfl, hbl, hat⟩
      · exfalso
        have := Hna.out
        rw [h0] at this
        simp at this
        omega
      obtain ⟨c0, c1, c2, c3, c4, c5⟩ := (hat j (by rw [← Hna.out]; exact hlt)).keep B hbl
      obtain ⟨b1, b2, b3, b4, b5, b6, b7⟩ := ev_bounds Oa.out (j := j) (by rw [← Hna.out]; exact hlt)
      have hsn := marksR_snoc ea j (by rw [← Hna.out]; exact hlt)
      unfold Ev.stop at hsn
      clear hat
      generalize (ea.getD j default).reel = reel at c0
      generalize (ea.getD j default).kind = kind at c1
      generalize (ea.getD j default).len = len at c2 hsn b6 b7
      generalize (ea.getD j default).inn = inn at c3 hsn b1 b2
      generalize (ea.getD j default).out = out at c4 hsn b2 b3
      generalize (ea.getD j default).pos = pos at c5 hsn b4 b5
      have Hsn := Lib.hid hsn
      clear hsn
      have hji : (j : Int) < (na : Int) := by omega
      obtain ⟨g, cap, rfl, mk⟩ := mk.form
      go_upto_region 9 with fail
      refine name_world ?_
      intro w3 hw3
      have x10 : Bx w3 wr.heap.size 59 #[.string reel, .int .i64 kind, .int .i64 len, .int .i64 inn, .int .i64 out, .int .i64 pos] := by rw [hw3]; exact Bx.new _ _ _
      have hb9 : Below wr.heap.size wr w3 := by rw [hw3]; exact bnew (Below.refl _ wr)
      have l13 := xl.lt
      clear hw3 c0 c1 c2 c3 c4 c5
      replace x2 := x2.keep hb9
      replace x3 := x3.keep hb9
      replace xl := xl.keep hb9
      replace mk := mk.more hb9 (Nat.le_refl _)
      replace B := bcall B hb9
      clear hb9
      generalize hp10 : wr.heap.size = p10 at *
      clear hp10
      obtain ⟨q10, f10, l10⟩ := x10.all
      go_wp2_with fail
      refine (ref_end reel kind len inn out pos _ b1 b2 b3 b4 b5).mono ?_
      rintro e w4 ⟨rfl, hE⟩
      clear q10 f10 l10
      replace x2 := x2.keep hE
      replace x3 := x3.keep hE
      replace xl := xl.keep hE
      replace x10 := x10.keep hE
      replace mk := mk.below hE
      replace B := bcall B hE
      clear hE
      obtain ⟨Lm, hLm⟩ : ∃ Lm, imax L (pos + out - inn) = Lm := ⟨_, rfl⟩
      have hLs := imax_spec L (pos + out - inn)
      rw [hLm] at hLs
      have HLs := Lib.hid hLs
      have bLm : 0 ≤ Lm ∧ Lm ≤ 33554432 := by omega
      clear hLs
      go_upto_region 10 with fail
      refine wp_region_grd 6 (fun _ => false) (fun q u w' => if q = 5 then ∃ gn, u = .slice (some ⟨gn, 0, none⟩) 2 2 ∧ w4.heap.size ≤ gn ∧ Bx w' gn 3 #[.int .i64 pos, .int .i64 (pos + out - inn)] else u = [.slice (some ⟨g, 0, none⟩) zs.length cap, .pointer (some ⟨p10, 5, none⟩), .int .i64 pos, .agg #[.string reel, .int .i64 kind, .int .i64 len, .int .i64 inn, .int .i64 out, .int .i64 pos], .int .i64 (pos + out - inn)].getD q undef) (fun _ => false) (fun w' => Below w4.heap.size w4 w') (by kernel_rfl) (by kernel_rfl) (fun _ _ _ _ _ h => h)
        (fun _ _ h e => e.trans (h.mono e.size)) (fun t u a' b' hb h => ?_) (Below.refl _ _).drew ?_ ?_ ?_
      · split
        · rename_i h4
          rw [if_pos h4] at h
          obtain ⟨gn, e1, e2, e3⟩ := h
          exact ⟨gn, e1, e2, e3.keep hb⟩
        · rename_i h4
          rw [if_neg h4] at h
          exact h
      · intro t op ht hlt hop
        clear hlt
        rcases (by omega : t = 0 ∨ t = 1 ∨ t = 2 ∨ t = 3 ∨ t = 4 ∨ t = 5) with rfl | rfl | rfl | rfl | rfl | rfl
        all_goals simp only [List.getElem?_cons_zero, List.getElem?_cons_succ, Option.some.injEq] at hop
        all_goals subst hop
        all_goals intro a wx hE hag hdep
        · refine grd_none rfl ?_
          have e0 := slot_eq (hag 6 rfl)
          exact rel_pure _ rfl rfl (by simp [go_sem, e0])
        · refine grd_none rfl ?_
          have e0 := slot_eq (hag 10 rfl)
          exact rel_pure _ rfl rfl (by simp [go_sem, e0])
        · refine grd_none rfl ?_
          have e0 := slot_eq (hdep ⟨1, .data⟩ (by simp) rfl)
          have hq := (x10.keep hE).all.1
          exact rel_pure _ rfl rfl (by simp [go_sem, e0, hq])
        · refine grd_none rfl ?_
          have e0 := slot_eq (hag 10 rfl)
          have hq := (x10.keep hE).all.1
          exact rel_pure _ rfl rfl (by simp [go_sem, e0, hq])
        · refine grd_none rfl ?_
          have e0 := slot_eq (hdep ⟨3, .data⟩ (by simp) rfl)
          refine rel_call (f := 30) (args := #[.agg #[.string reel, .int .i64 kind, .int .i64 len, .int .i64 inn, .int .i64 out, .int .i64 pos]]) (run_go_call Tryd.func30 (by kernel_rfl) (by kernel_rfl) _ _ _ _ _ _ _ _ _ _ (by simp [Act.eval, e0])) rfl ?_
          refine (ref_end reel kind len inn out pos wx b1 b2 b3 b4 b5).mono ?_
          rintro e w' ⟨rfl, hbx⟩
          exact ⟨_, rfl, rfl, hbx⟩
        · refine grd_none rfl ?_
          have e0 := slot_eq (hdep ⟨2, .data⟩ (by simp) rfl)
          have e1 := slot_eq (hdep ⟨4, .data⟩ (by simp) rfl)
          exact rel_val (v := .slice (some ⟨wx.heap.size, 0, none⟩) 2 2) (w' := wx.alloc (.cells #[.int .i64 pos, .int .i64 (pos + out - inn)] 3)) (by simp [go_sem, e0, e1]) ⟨wx.heap.size, rfl, hE.size, Bx.new _ _ _⟩ (bnew (Below.refl _ _)) (fun h => by cases h)
      · intro t op ht hlt; cases hlt
      intro vs wy hE hvs _
      have k0 : vs 0 = .slice (some ⟨g, 0, none⟩) zs.length cap := hvs 0 (by omega)
      obtain ⟨gn, k5, hgn, xn⟩ := hvs 5 (by omega)
      simp only [List.drop_succ_cons, List.drop_zero, putAll, dstAt, List.getElem?_toArray, List.getElem?_cons_zero, List.getElem?_cons_succ, Option.bind_some, Act.put, List.setIfInBounds_toArray, List.set_cons_zero, List.set_cons_succ, k0, k5]
      clear hvs k0 k5
      replace x2 := x2.keep hE
      replace x3 := x3.keep hE
      replace xl := xl.keep hE
      replace x10 := x10.keep hE
      replace mk := mk.below hE
      replace B := bcall B hE
      clear hE
      have lx := x10.lt
      have lxl := xl.lt
      have lB := B.size
      have hzl : [0].length ≤ 200000 := by simp
      refine mk_append (nz := [pos, pos + out - inn]) rfl (.tmp 41) (.tmp 46) rfl rfl gn 2 2 rfl rfl mk xn ?c1a ?c2a ?c3a ?c4a ?c5a
      case c1a => simp
      case c2a => simp only [List.length_cons, List.length_nil]; omega
      case c3a => omega
      case c4a => intro k hk; simp at hk; omega
      intro v6 w6 mk6 hbx hbel hsz
      replace x10 := hbx _ _ _ (by simp) x10
      replace x2 := hbx _ _ _ (by simp) x2
      replace x3 := hbx _ _ _ (by simp) x3
      replace xl := hbx _ _ _ (by simp) xl
      replace B := hbel _ B
      clear xn hgn
      clear hbx hbel hsz mk lx lxl lB
      generalize hz1 : zs ++ [pos, pos + out - inn] = z1 at mk6
      have Hz1l := Lib.hid (show z1.length = zs.length + 2 by rw [← hz1]; simp)
      have Hz1 := Lib.hid hz1
      clear hz1
      obtain ⟨g6, cap6, rfl, mk⟩ := mk6.form
      clear mk6
      obtain ⟨q10, f10, l10⟩ := x10.all
      go_wp2_with fail
      go_loopw [6, 51] (fun s6 i wr => ∃ (q : Nat) (zq : List Int), (q : Int) ≤ len + 1 ∧ i = .int .i64 (q : Int) ∧ Hid (zq = z1 ++ (List.range q).map fun (k : Nat) => pos + (k : Int)) ∧ zq.length ≤ z1.length + q ∧ Mk W.heap.size wr s6 zq (p10 :: [W.heap.size, W.heap.size + 1, W.heap.size + 3]) ∧ Bx wr p10 59 #[.string reel, .int .i64 kind, .int .i64 len, .int .i64 inn, .int .i64 out, .int .i64 pos] ∧ Bx wr W.heap.size 24 #[.string ta, .int .i64 ra, .slice (some ⟨b, o, none⟩) na ca] ∧ Bx wr (W.heap.size + 1) 24 #[.string tb, .int .i64 rb, .slice ab nb cb] ∧ Bx wr (W.heap.size + 3) 24 #[.string ta, .int .i64 ra, .slice (some ⟨b, o, none⟩) na ca, .string tb, .int .i64 rb, .slice ab nb cb] ∧ Below W.heap.size W wr) (fun _ i _ => (len.toNat + 1) - (intOf i).toNat)
      case atStart => exact ⟨0, z1, by omega, rfl, Lib.hid (by simp), by omega, mk, x10, x2, x3, xl, B⟩
      case round =>
        clear x10 x2 x3 xl mk B q10 f10 l10
        obtain ⟨q, zq, hq, rfl, hzq, hql, mk, x10, x2, x3, xl, B⟩ := hrel
        obtain ⟨gq, capq, rfl, mk⟩ := mk.form
        obtain ⟨q10, f10, l10⟩ := x10.all
        by_cases hlq : (q : Int) < len + 1
        · have lx := x10.lt
          have lxl := xl.lt
          have lB := B.size
          go_wp2_with (at_builtin; refine mk_append (nz := [pos + (q : Int)]) rfl (.tmp 54) (.tmp 59) rfl rfl wr.heap.size 1 1 rfl rfl (mk.below (below_eq rfl)) (Bx.new wr 3 #[.int .i64 (pos + (q : Int))]) ?d1a ?d2a ?d3a ?d4a ?d5a)
          case d1a => simp
          case d2a => have := Hz1l.out; simp only [List.length_cons, List.length_nil]; omega
          case d3a => simp; omega
          case d4a => intro k hk; simp at hk ⊢; omega
          intro v7 w7 mk7 hbx hbel hsz
          replace x10 := hbx _ _ _ (by simp) (x10.alloc _)
          replace x2 := hbx _ _ _ (by simp) (x2.alloc _)
          replace x3 := hbx _ _ _ (by simp) (x3.alloc _)
          replace xl := hbx _ _ _ (by simp) (xl.alloc _)
          replace B := hbel _ (bnew B)
          clear hbx hbel hsz mk q10 f10 l10 lx lxl lB
          go_wp2_with fail
          go_roundw
          case rel => exact ⟨q + 1, zq ++ [pos + (q : Int)], by omega, by go_num, Lib.hid (by rw [hzq.out, List.range_succ, List.map_append, List.append_assoc]; rfl), (by rw [List.length_append, List.length_singleton]; omega), mk7, x10, x2, x3, xl, B⟩
          case measure => simp [intOf]; omega
        · have hqe : (len + 1).toNat = q := by omega
          have hfin : zq = [0] ++ marksR (ea.take (j + 1)) := by rw [Hsn.out, hzq.out, ← Hz1.out, hz.out, hqe, List.append_assoc, List.append_assoc]
          have hmem : Lm = 0 ∨ Lm ∈ zq := by
            rw [hzq.out, ← Hz1.out]
            rcases HLs.out with ⟨h1, _⟩ | ⟨h1, _⟩
            · rcases hL.out with h | h
              · left; rw [h1]; exact h
              · right; rw [h1]; simp [h]
            · right; rw [h1]; simp
          have Hfin := Lib.hid hfin
          have Hmem := Lib.hid hmem
          clear hfin hmem
          have hz1l := Hz1l.out
          have hql2 : zq.length ≤ [0].length + 253 * (j + 1) := by omega
          clear hz1l
          go_wp2_with fail
          go_roundw
          case rel => exact ⟨j + 1, Lm, zq, by omega, rfl, by go_num, Hfin, Hmem, bLm.1, bLm.2, hql2, mk.less (by intro k hk; simp at hk ⊢; omega), x2, x3, xl, B⟩
          case measure => simp [intOf]; omega
    · have hjn : ea.take j = ea := List.take_of_length_le (by rw [← Hna.out]; omega)
      rw [hjn] at hz
      generalize zs = za at *
      generalize L = La at *
      have hza := hz
      have HL := hL
      have ba0 := L0
      have ba1 := L1
      have hlena : za.length ≤ 130000 := by have h9 := hlen; first | omega | (simp only [List.length_cons, List.length_nil] at h9; omega)
      clear hz hL L0 L1 hlen
      obtain ⟨ga, capa, rfl, mk⟩ := mk.form
      obtain ⟨q2, f2, l2⟩ := x2.all
      obtain ⟨q3, f3, l3⟩ := x3.all
      obtain ⟨ql, fl, ll⟩ := xl.all
      go_wp2_with fail
      rw [rounds_succ]
      go_upto_region 7 with fail
      refine name_world ?_
      intro v1 hv1
      have hb9 := below_eq hv1
      clear hv1
      replace x2 := x2.keep hb9
      replace x3 := x3.keep hb9
      replace xl := xl.keep hb9
      replace mk := mk.below hb9
      replace B := bcall B hb9
      clear hb9 q2 f2 l2 q3 f3 l3 ql fl ll
      go_loopw [5, 6, 33] (fun s5 s6 i wr => ∃ (j : Nat) (L : Int) (zs : List Int), j ≤ nb ∧ s5 = .int .i64 L ∧ i = .int .i64 (j : Int) ∧ Hid (zs = za ++ marksR (eb.take j)) ∧ Hid (L = 0 ∨ L ∈ zs) ∧ 0 ≤ L ∧ L ≤ 33554432 ∧ zs.length ≤ za.length + 253 * j ∧ Mk W.heap.size wr s6 zs [W.heap.size, W.heap.size + 1, W.heap.size + 3] ∧ Bx wr W.heap.size 24 #[.string ta, .int .i64 ra, .slice aa na ca] ∧ Bx wr (W.heap.size + 1) 24 #[.string tb, .int .i64 rb, .slice ab nb cb] ∧ Bx wr (W.heap.size + 3) 24 #[.string ta, .int .i64 ra, .slice aa na ca, .string tb, .int .i64 rb, .slice ab nb cb] ∧ Below W.heap.size W wr) (fun _ _ i _ => nb - (intOf i).toNat)
      case atStart => exact ⟨0, La, za, by omega, rfl, rfl, Lib.hid (by simp [marksR]), HL, by omega, by omega, by simp, mk, x2, x3, xl, B⟩
      case round =>
        clear x2 x3 xl mk B
        obtain ⟨j, L, zs, hj, rfl, rfl, hz, hL, L0, L1, hlen, mk, x2, x3, xl, B⟩ := hrel
        by_cases hlt : j < nb
        · rcases hfb with h0 | ⟨b, o, rfl, hbl, hat⟩
          · exfalso
            have := Hnb.out
            rw [h0] at this
            simp at this
            omega
          obtain ⟨c0, c1, c2, c3, c4, c5⟩ := (hat j (by rw [← Hnb.out]; exact hlt)).keep B hbl
          obtain ⟨b1, b2, b3, b4, b5, b6, b7⟩ := ev_bounds Ob.out (j := j) (by rw [← Hnb.out]; exact hlt)
          have hsn := marksR_snoc eb j (by rw [← Hnb.out]; exact hlt)
          unfold Ev.stop at hsn
          clear hat
          generalize (eb.getD j default).reel = reel at c0
          generalize (eb.getD j default).kind = kind at c1
          generalize (eb.getD j default).len = len at c2 hsn b6 b7
          generalize (eb.getD j default).inn = inn at c3 hsn b1 b2
          generalize (eb.getD j default).out = out at c4 hsn b2 b3
          generalize (eb.getD j default).pos = pos at c5 hsn b4 b5
          have Hsn := Lib.hid hsn
          clear hsn
          have hji : (j : Int) < (nb : Int) := by omega
          obtain ⟨g, cap, rfl, mk⟩ := mk.form
          go_upto_region 9 with fail
          refine name_world ?_
          intro w3 hw3
          have x10 : Bx w3 wr.heap.size 59 #[.string reel, .int .i64 kind, .int .i64 len, .int .i64 inn, .int .i64 out, .int .i64 pos] := by rw [hw3]; exact Bx.new _ _ _
          have hb9 : Below wr.heap.size wr w3 := by rw [hw3]; exact bnew (Below.refl _ wr)
          have l13 := xl.lt
          clear hw3 c0 c1 c2 c3 c4 c5
          replace x2 := x2.keep hb9
          replace x3 := x3.keep hb9
          replace xl := xl.keep hb9
          replace mk := mk.more hb9 (Nat.le_refl _)
          replace B := bcall B hb9
          clear hb9
          generalize hp10 : wr.heap.size = p10 at *
          clear hp10
          obtain ⟨q10, f10, l10⟩ := x10.all
          go_wp2_with fail
          refine (ref_end reel kind len inn out pos _ b1 b2 b3 b4 b5).mono ?_
          rintro e w4 ⟨rfl, hE⟩
          clear q10 f10 l10
          replace x2 := x2.keep hE
          replace x3 := x3.keep hE
          replace xl := xl.keep hE
          replace x10 := x10.keep hE
          replace mk := mk.below hE
          replace B := bcall B hE
          clear hE
          obtain ⟨Lm, hLm⟩ : ∃ Lm, imax L (pos + out - inn) = Lm := ⟨_, rfl⟩
          have hLs := imax_spec L (pos + out - inn)
          rw [hLm] at hLs
          have HLs := Lib.hid hLs
          have bLm : 0 ≤ Lm ∧ Lm ≤ 33554432 := by omega
          clear hLs
          go_upto_region 10 with fail
          refine wp_region_grd 6 (fun _ => false) (fun q u w' => if q = 5 then ∃ gn, u = .slice (some ⟨gn, 0, none⟩) 2 2 ∧ w4.heap.size ≤ gn ∧ Bx w' gn 3 #[.int .i64 pos, .int .i64 (pos + out - inn)] else u = [.slice (some ⟨g, 0, none⟩) zs.length cap, .pointer (some ⟨p10, 5, none⟩), .int .i64 pos, .agg #[.string reel, .int .i64 kind, .int .i64 len, .int .i64 inn, .int .i64 out, .int .i64 pos], .int .i64 (pos + out - inn)].getD q undef) (fun _ => false) (fun w' => Below w4.heap.size w4 w') (by kernel_rfl) (by kernel_rfl) (fun _ _ _ _ _ h => h)
            (fun _ _ h e => e.trans (h.mono e.size)) (fun t u a' b' hb h => ?_) (Below.refl _ _).drew ?_ ?_ ?_
          · split
            · rename_i h4
              rw [if_pos h4] at h
              obtain ⟨gn, e1, e2, e3⟩ := h
              exact ⟨gn, e1, e2, e3.keep hb⟩
            · rename_i h4
              rw [if_neg h4] at h
              exact h
          · intro t op ht hlt hop
            clear hlt
            rcases (by omega : t = 0 ∨ t = 1 ∨ t = 2 ∨ t = 3 ∨ t = 4 ∨ t = 5) with rfl | rfl | rfl | rfl | rfl | rfl
            all_goals simp only [List.getElem?_cons_zero, List.getElem?_cons_succ, Option.some.injEq] at hop
            all_goals subst hop
            all_goals intro a wx hE hag hdep
            · refine grd_none rfl ?_
              have e0 := slot_eq (hag 6 rfl)
              exact rel_pure _ rfl rfl (by simp [go_sem, e0])
            · refine grd_none rfl ?_
              have e0 := slot_eq (hag 10 rfl)
              exact rel_pure _ rfl rfl (by simp [go_sem, e0])
            · refine grd_none rfl ?_
              have e0 := slot_eq (hdep ⟨1, .data⟩ (by simp) rfl)
              have hq := (x10.keep hE).all.1
              exact rel_pure _ rfl rfl (by simp [go_sem, e0, hq])
            · refine grd_none rfl ?_
              have e0 := slot_eq (hag 10 rfl)
              have hq := (x10.keep hE).all.1
              exact rel_pure _ rfl rfl (by simp [go_sem, e0, hq])
            · refine grd_none rfl ?_
              have e0 := slot_eq (hdep ⟨3, .data⟩ (by simp) rfl)
              refine rel_call (f := 30) (args := #[.agg #[.string reel, .int .i64 kind, .int .i64 len, .int .i64 inn, .int .i64 out, .int .i64 pos]]) (run_go_call Tryd.func30 (by kernel_rfl) (by kernel_rfl) _ _ _ _ _ _ _ _ _ _ (by simp [Act.eval, e0])) rfl ?_
              refine (ref_end reel kind len inn out pos wx b1 b2 b3 b4 b5).mono ?_
              rintro e w' ⟨rfl, hbx⟩
              exact ⟨_, rfl, rfl, hbx⟩
            · refine grd_none rfl ?_
              have e0 := slot_eq (hdep ⟨2, .data⟩ (by simp) rfl)
              have e1 := slot_eq (hdep ⟨4, .data⟩ (by simp) rfl)
              exact rel_val (v := .slice (some ⟨wx.heap.size, 0, none⟩) 2 2) (w' := wx.alloc (.cells #[.int .i64 pos, .int .i64 (pos + out - inn)] 3)) (by simp [go_sem, e0, e1]) ⟨wx.heap.size, rfl, hE.size, Bx.new _ _ _⟩ (bnew (Below.refl _ _)) (fun h => by cases h)
          · intro t op ht hlt; cases hlt
          intro vs wy hE hvs _
          have k0 : vs 0 = .slice (some ⟨g, 0, none⟩) zs.length cap := hvs 0 (by omega)
          obtain ⟨gn, k5, hgn, xn⟩ := hvs 5 (by omega)
          simp only [List.drop_succ_cons, List.drop_zero, putAll, dstAt, List.getElem?_toArray, List.getElem?_cons_zero, List.getElem?_cons_succ, Option.bind_some, Act.put, List.setIfInBounds_toArray, List.set_cons_zero, List.set_cons_succ, k0, k5]
          clear hvs k0 k5
          replace x2 := x2.keep hE
          replace x3 := x3.keep hE
          replace xl := xl.keep hE
          replace x10 := x10.keep hE
          replace mk := mk.below hE
          replace B := bcall B hE
          clear hE
          have lx := x10.lt
          have lxl := xl.lt
          have lB := B.size
          have hzl : za.length ≤ 200000 := by omega
          refine mk_append (nz := [pos, pos + out - inn]) rfl (.tmp 41) (.tmp 46) rfl rfl gn 2 2 rfl rfl mk xn ?c1b ?c2b ?c3b ?c4b ?c5b
          case c1b => simp
          case c2b => simp only [List.length_cons, List.length_nil]; omega
          case c3b => omega
          case c4b => intro k hk; simp at hk; omega
          intro v6 w6 mk6 hbx hbel hsz
          replace x10 := hbx _ _ _ (by simp) x10
          replace x2 := hbx _ _ _ (by simp) x2
          replace x3 := hbx _ _ _ (by simp) x3
          replace xl := hbx _ _ _ (by simp) xl
          replace B := hbel _ B
          clear xn hgn
          clear hbx hbel hsz mk lx lxl lB
          generalize hz1 : zs ++ [pos, pos + out - inn] = z1 at mk6
          have Hz1l := Lib.hid (show z1.length = zs.length + 2 by rw [← hz1]; simp)
          have Hz1 := Lib.hid hz1
          clear hz1
          obtain ⟨g6, cap6, rfl, mk⟩ := mk6.form
          clear mk6
          obtain ⟨q10, f10, l10⟩ := x10.all
          go_wp2_with fail
          go_loopw [6, 51] (fun s6 i wr => ∃ (q : Nat) (zq : List Int), (q : Int) ≤ len + 1 ∧ i = .int .i64 (q : Int) ∧ Hid (zq = z1 ++ (List.range q).map fun (k : Nat) => pos + (k : Int)) ∧ zq.length ≤ z1.length + q ∧ Mk W.heap.size wr s6 zq (p10 :: [W.heap.size, W.heap.size + 1, W.heap.size + 3]) ∧ Bx wr p10 59 #[.string reel, .int .i64 kind, .int .i64 len, .int .i64 inn, .int .i64 out, .int .i64 pos] ∧ Bx wr W.heap.size 24 #[.string ta, .int .i64 ra, .slice aa na ca] ∧ Bx wr (W.heap.size + 1) 24 #[.string tb, .int .i64 rb, .slice (some ⟨b, o, none⟩) nb cb] ∧ Bx wr (W.heap.size + 3) 24 #[.string ta, .int .i64 ra, .slice aa na ca, .string tb, .int .i64 rb, .slice (some ⟨b, o, none⟩) nb cb] ∧ Below W.heap.size W wr) (fun _ i _ => (len.toNat + 1) - (intOf i).toNat)
          case atStart => exact ⟨0, z1, by omega, rfl, Lib.hid (by simp), by omega, mk, x10, x2, x3, xl, B⟩
          case round =>
            clear x10 x2 x3 xl mk B q10 f10 l10
            obtain ⟨q, zq, hq, rfl, hzq, hql, mk, x10, x2, x3, xl, B⟩ := hrel
            obtain ⟨gq, capq, rfl, mk⟩ := mk.form
            obtain ⟨q10, f10, l10⟩ := x10.all
            by_cases hlq : (q : Int) < len + 1
            · have lx := x10.lt
              have lxl := xl.lt
              have lB := B.size
              go_wp2_with (at_builtin; refine mk_append (nz := [pos + (q : Int)]) rfl (.tmp 54) (.tmp 59) rfl rfl wr.heap.size 1 1 rfl rfl (mk.below (below_eq rfl)) (Bx.new wr 3 #[.int .i64 (pos + (q : Int))]) ?d1b ?d2b ?d3b ?d4b ?d5b)
              case d1b => simp
              case d2b => have := Hz1l.out; simp only [List.length_cons, List.length_nil]; omega
              case d3b => simp; omega
              case d4b => intro k hk; simp at hk ⊢; omega
              intro v7 w7 mk7 hbx hbel hsz
              replace x10 := hbx _ _ _ (by simp) (x10.alloc _)
              replace x2 := hbx _ _ _ (by simp) (x2.alloc _)
              replace x3 := hbx _ _ _ (by simp) (x3.alloc _)
              replace xl := hbx _ _ _ (by simp) (xl.alloc _)
              replace B := hbel _ (bnew B)
              clear hbx hbel hsz mk q10 f10 l10 lx lxl lB
              go_wp2_with fail
              go_roundw
              case rel => exact ⟨q + 1, zq ++ [pos + (q : Int)], by omega, by go_num, Lib.hid (by rw [hzq.out, List.range_succ, List.map_append, List.append_assoc]; rfl), (by rw [List.length_append, List.length_singleton]; omega), mk7, x10, x2, x3, xl, B⟩
              case measure => simp [intOf]; omega
            · have hqe : (len + 1).toNat = q := by omega
              have hfin : zq = za ++ marksR (eb.take (j + 1)) := by rw [Hsn.out, hzq.out, ← Hz1.out, hz.out, hqe, List.append_assoc, List.append_assoc]
              have hmem : Lm = 0 ∨ Lm ∈ zq := by
                rw [hzq.out, ← Hz1.out]
                rcases HLs.out with ⟨h1, _⟩ | ⟨h1, _⟩
                · rcases hL.out with h | h
                  · left; rw [h1]; exact h
                  · right; rw [h1]; simp [h]
                · right; rw [h1]; simp
              have Hfin := Lib.hid hfin
              have Hmem := Lib.hid hmem
              clear hfin hmem
              have hz1l := Hz1l.out
              have hql2 : zq.length ≤ za.length + 253 * (j + 1) := by omega
              clear hz1l
              go_wp2_with fail
              go_roundw
              case rel => exact ⟨j + 1, Lm, zq, by omega, rfl, by go_num, Hfin, Hmem, bLm.1, bLm.2, hql2, mk.less (by intro k hk; simp at hk ⊢; omega), x2, x3, xl, B⟩
              case measure => simp [intOf]; omega
        · have hjn : eb.take j = eb := List.take_of_length_le (by rw [← Hnb.out]; omega)
          rw [hjn] at hz
          generalize zs = zb at *
          generalize L = Lb at *
          have hzb := hz
          have HL := hL
          have bb0 := L0
          have bb1 := L1
          have hlenb : zb.length ≤ 260000 := by have h9 := hlen; first | omega | (simp only [List.length_cons, List.length_nil] at h9; omega)
          clear hz hL L0 L1 hlen
          obtain ⟨gb, capb, rfl, mk⟩ := mk.form
          obtain ⟨q2, f2, l2⟩ := x2.all
          obtain ⟨q3, f3, l3⟩ := x3.all
          obtain ⟨ql, fl, ll⟩ := xl.all
          go_wp2_with fail
          rw [rounds_succ]
          clear xl ql fl ll q2 f2 l2 q3 f3 l3
          obtain ⟨ho, hgB, hgl, hgn, hgK⟩ := mk.own
          have hgne : gb ≠ W.heap.size ∧ gb ≠ W.heap.size + 1 := ⟨hgK _ (by simp), hgK _ (by simp)⟩
          clear mk hgK
          go_wp2_with fail
          refine (sort_own ho (by intro e; cases e) (by omega) (by omega)).mono ?_
          rintro e v8 ⟨rfl, ho8, hb8⟩
          replace x2 := x2.below hb8 (by omega)
          replace x3 := x3.below hb8 (by omega)
          replace B := B.trans (hb8.mono hgB)
          clear ho hb8
          go_wp2_with fail
          refine (compact_own ho8 (by intro e; cases e) (by omega)).mono ?_
          rintro e v9 ⟨gc, capc, rfl, ho9, hb9⟩
          have lgc : gc < v9.heap.size := by rcases ho9.2 with ⟨h0, _⟩ | ⟨g', _, _, e1, _, e3, _⟩; · cases h0
                                             · injection e1 with e1; injection e1 with e1; injection e1 with e1; rw [e1]; exact (Array.getElem?_eq_some_iff.1 e3).1
          replace x2 := x2.below hb9 (by omega)
          replace x3 := x3.below hb9 (by omega)
          replace B := B.trans (hb9.mono hgB)
          clear ho8 hb9
          have hzall : zb = [0] ++ marksR ea ++ marksR eb := by rw [hzb.out, hza.out]
          have hM0 : Lib.compact (zb.mergeSort fun x y => decide (x ≤ y)) = marked zb := rfl
          rw [hM0] at ho9 ⊢
          obtain ⟨hM1, hM2⟩ := marked_spec zb
          have hcm := HCM.out
          rw [← hzall] at hcm
          have hge : ∀ x, x ∈ marked zb → 0 ≤ x := by
            intro x hx
            have hx := (hM2 x).1 hx
            rw [hzall] at hx
            rcases List.mem_append.1 hx with hx | hx
            · rcases List.mem_append.1 hx with hx | hx
              · have : x = 0 := by simpa using hx
                omega
              · exact marksR_nonneg Oa.out x hx
            · exact marksR_nonneg Ob.out x hx
          have h0M : (0 : Int) ∈ marked zb := (hM2 0).2 (by rw [hzall]; simp)
          have hLM : Lb ∈ marked zb := by
            rcases HL.out with h | h
            · rw [h]; exact h0M
            · exact (hM2 _).2 h
          have hlM : (marked zb).length ≤ zb.length := by
            have h1 := Lib.compact_length_le (zb.mergeSort fun x y => decide (x ≤ y))
            rw [List.length_mergeSort] at h1
            exact h1
          generalize marked zb = M at *
          obtain ⟨n, hn⟩ : ∃ n, n = M.length := ⟨_, rfl⟩
          rw [← hn] at ho9 hlM hcm ⊢
          have hn0 : 0 < n := by rw [hn]; exact List.length_pos_of_mem h0M
          have hcell : ∀ k, k < n → v9.cell? ⟨gc, k, none⟩ = some (.int .i64 (M.getD k 0)) := by
            intro k hk
            rw [ho9.cellAt k (by omega), List.getElem?_map, List.getElem?_eq_getElem (by omega)]
            simp [List.getD, show k < M.length by omega]
          have hnn : ∀ k, k < n → 0 ≤ M.getD k 0 := by
            intro k hk
            have e : M.getD k 0 = M[k]'(by omega) := by simp [List.getD, show k < M.length by omega]
            rw [e]; exact hge _ (List.getElem_mem _)
          have hlast : Lb ≤ M.getD (n - 1) 0 := by
            obtain ⟨i, hi, e⟩ := List.mem_iff_getElem.1 hLM
            have e : M.getD i 0 = Lb := by simp [List.getD, hi, e]
            rcases Nat.lt_or_ge i (n - 1) with h | h
            · have := mono_of hM1 h (by omega); omega
            · rw [show n - 1 = i by omega, e]; exact Int.le_refl _
          have hstep : ∀ k, k + 1 < n → M.getD k 0 < M.getD (k + 1) 0 := fun k hk => mono_of hM1 (by omega) (by omega)
          have Hcell := Lib.hid hcell
          have Hnn := Lib.hid hnn
          have Hlast := Lib.hid hlast
          have Hstep := Lib.hid hstep
          have Hcm := Lib.hid hcm
          have Hn := Lib.hid hn
          have hnb : n ≤ 260000 := by omega
          clear hcell hnn hlast hstep hcm hn hM1 hM2 hge h0M hLM hM0 hzall ho9 HL hza hzb HCM hfa hfb hlM
          clear hlena hlenb ba0 ba1 bb0 bb1
          obtain ⟨q2, f2, l2⟩ := x2.all
          obtain ⟨q3, f3, l3⟩ := x3.all
          have hWv := B.size
          go_wp2_with fail
          go_loopw [12, 70] (fun s12 i wr => ∃ k : Nat, k ≤ n ∧ i = .int .i64 (k : Int) ∧ OutR v9.heap.size wr s12 (rngs M (alike2 ea eb) (min k (n - 1))) ∧ Below v9.heap.size v9 wr) (fun _ i _ => n - (intOf i).toNat)
          case atStart => exact ⟨0, by omega, rfl, by rw [Nat.zero_min]; exact OutR.nil _ _, Below.refl _ _⟩
          case round =>
            clear q2 f2 l2 q3 f3 l3
            obtain ⟨k, hk, rfl, hout, hbl⟩ := hrel
            have hsz := hbl.size
            replace x2 := x2.keep hbl
            replace x3 := x3.keep hbl
            replace B := bcall B hbl
            by_cases hlt : k < n
            · have hki : (k : Int) < (n : Int) := by omega
              have hc0 : wr.cell? ⟨gc, k, none⟩ = some (.int .i64 (M.getD k 0)) := (hbl.cell (p := ⟨gc, k, none⟩) lgc).trans (Hcell.out k hlt)
              by_cases hl1 : k + 1 < n
              · have hki1 : (k : Int) + 1 < (n : Int) := by omega
                have hc1 : wr.cell? ⟨gc, k + 1, none⟩ = some (.int .i64 (M.getD (k + 1) 0)) := (hbl.cell (p := ⟨gc, k + 1, none⟩) lgc).trans (Hcell.out (k + 1) hl1)
                have hmt := Hstep.out k hl1
                have hm0 := Hnn.out k hlt
                rw [show min k (n - 1) = k by omega] at hout
                have hnext : rngs M (alike2 ea eb) (min (k + 1) (n - 1)) = stepR (rngs M (alike2 ea eb) k) (M.getD k 0) (M.getD (k + 1) 0) (alike2 ea eb (M.getD k 0)) := by rw [show min (k + 1) (n - 1) = k + 1 by omega]; rfl
                have hrl := rngs_len M (alike2 ea eb) k
                generalize rngs M (alike2 ea eb) k = L at hout hnext hrl
                generalize M.getD k 0 = m at hc0 hmt hm0 hnext
                generalize M.getD (k + 1) 0 = te at hc1 hmt hnext
                have emt : decide (te ≤ m) = false := decide_eq_false (by omega)
                have Hnext := Lib.hid hnext
                clear hnext
                obtain ⟨e1, r1, y1, s1, g1, h1, er1, hf1, hc1'⟩ := atR_form ea m
                obtain ⟨e2, r2, y2, s2, g2, h2, er2, hf2, hc2'⟩ := atR_form eb m
                have hal := alike_ref Oa.out Ob.out hc1' hc2'
                have Hal := Lib.hid hal
                have Hf1 := Lib.hid hf1
                have Hf2 := Lib.hid hf2
                clear hal hf1 hf2 hc1' hc2'
                obtain ⟨q2, f2, l2⟩ := x2.all
                go_wp2_with fail
                refine (ref_At ta ra _ ea m _ (HA.out.keep B) Oa.out hm0).mono ?_
                rintro e w1 ⟨rfl, hb1⟩
                rw [Hf1.out]
                clear q2 f2 l2
                replace x2 := x2.keep hb1
                replace x3 := x3.keep hb1
                replace hout := hout.below hb1
                replace B := bcall B hb1
                replace hbl := hbl.trans (hb1.mono hsz)
                replace hsz := Nat.le_trans hsz hb1.size
                clear hb1 hc0 hc1
                obtain ⟨q3, f3, l3⟩ := x3.all
                go_wp2_with fail
                refine nm_call ?_
                intro w2 hw2
                have x16 : Bx w2 w1.heap.size 39 #[.int .i64 e1, .string r1, .int .i64 y1, .string s1, .int .i64 g1, .float .f32 h1] := by rw [hw2]; exact Bx.new _ _ _
                have hb2 := below_eq hw2
                have B2 := bcall B hb2
                clear hw2 q3 f3 l3
                refine (ref_At tb rb _ eb m _ (HB.out.keep B2) Ob.out hm0).mono ?_
                rintro e w3 ⟨rfl, hb3⟩
                rw [Hf2.out]
                replace x16 := x16.keep hb3
                have b13 := hb2.trans (hb3.mono hb2.size)
                clear hb2 hb3 B2
                have l16 := x16.lt
                obtain ⟨q16, f16, l16'⟩ := x16.all
                go_upto_region 31 with fail
                refine name_world ?_
                intro w4 hw4
                have x18 : Bx w4 w3.heap.size 39 #[.int .i64 0, .string r2, .int .i64 y2, .string s2, .int .i64 g2, .float .f32 h2] := by rw [hw4]; exact Bx.at _ (by simp [World.setCell])
                have y16 : Bx w4 w1.heap.size 39 #[.int .i64 0, .string r1, .int .i64 y1, .string s1, .int .i64 g1, .float .f32 h1] := by rw [hw4]; exact (x16.set 0 _).alloc _
                have b14 : Below w1.heap.size w1 w4 := by rw [hw4]; exact bnew (bput (Nat.le_refl _) b13)
                clear hw4 x16 q16 f16 l16' b13
                replace x2 := x2.keep b14
                replace x3 := x3.keep b14
                replace hout := hout.below b14
                replace B := bcall B b14
                replace hbl := hbl.trans (b14.mono hsz)
                replace hsz := Nat.le_trans hsz b14.size
                clear b14
                obtain ⟨bq, hbq⟩ : ∃ b, b = (decide (r1 = r2) && (decide (y1 = y2) && (decide (s1 = s2) && (decide (g1 = g2) && FloatKind.f32.format.order h1 h2 == some .eq)))) := ⟨_, rfl⟩
                have heq : ∀ w, (Op.equalIn 10000 39 (.agg #[.int .i64 0, .string r1, .int .i64 y1, .string s1, .int .i64 g1, .float .f32 h1]) (.agg #[.int .i64 0, .string r2, .int .i64 y2, .string s2, .int .i64 g2, .float .f32 h2])).run Tryd.prog w = .ok bq w := fun w => by rw [hbq]; exact run_eq_shot0 y1 y2 g1 g2 r1 r2 s1 s2 h1 h2 w
                have hal := Hal.out
                rw [← hbq] at hal
                clear hbq Hal
                generalize alike2 ea eb m = al at hal Hnext
                obtain ⟨q16, f16, l16'⟩ := y16.all
                obtain ⟨q18, f18, l18⟩ := x18.all
                cases hce : (er1 == er2)
                · rw [hce, Bool.false_and] at hal
                  subst hal
                  rcases hout.form with ⟨rfl, rfl⟩ | ⟨g, cap, rfl, hgB2, hgl2, hout2⟩
                  · have hst : rngs M (alike2 ea eb) (min (k + 1) (n - 1)) = [] ++ [(m, te)] := by rw [Hnext.out]; unfold stepR; simp
                    have Hst := Lib.hid hst
                    clear hst Hnext hout
                    go_upto_region 35 with fail
                    go_wp2_with (at_builtin; refine rg_append (B := v9.heap.size) (m := m) (te := te) rfl (.tmp 135) (.tmp 139) rfl rfl w4.heap.size 1 rfl (OutR.nil _ _) (Bx.new w4 33 #[.int .i64 m, .int .i64 te]) ?e1ax ?e2ax ?e3ax)
                    case e1ax => simp
                    case e2ax => have := hsz; simp; omega
                    intro v5 w5 ho5 hb5
                    have hbl5 := hb5 _ _ (Nat.le_refl _) (bnew hbl)
                    clear hb5
                    go_wp2_with fail
                    go_roundw
                    case rel => exact ⟨k + 1, by omega, by go_num, by rw [Hst.out]; exact ho5, hbl5⟩
                    case measure => simp [intOf]; omega
                  · obtain ⟨N, hN⟩ : ∃ N, N = L.length := ⟨_, rfl⟩
                    rw [← hN] at hout2 hrl ⊢
                    have HN := Lib.hid hN
                    have hown : w4.ownsRow v9.heap.size 33 2 (.slice (some ⟨g, 0, none⟩) N cap) N (rgC L) := by have h0 := hout2; unfold OutR at h0; rw [← hN] at h0; exact h0
                    have hout3 := hout2
                    clear hN hout hout2
                    by_cases hN0 : N = 0
                    · have hst : rngs M (alike2 ea eb) (min (k + 1) (n - 1)) = L ++ [(m, te)] := by rw [Hnext.out]; unfold stepR; rw [if_neg (by simp), if_neg (by rw [← HN.out]; omega)]
                      have Hst := Lib.hid hst
                      have eN : decide (0 < (N : Int)) = false := decide_eq_false (by omega)
                      have eN2 : decide (0 < N) = false := decide_eq_false (by omega)
                      clear hst Hnext
                      go_upto_region 35 with fail
                      go_wp2_with (at_builtin; refine rg_append (B := v9.heap.size) (m := m) (te := te) rfl (.tmp 135) (.tmp 139) rfl rfl w4.heap.size 1 rfl (hout3.below (below_eq rfl)) (Bx.new w4 33 #[.int .i64 m, .int .i64 te]) ?e1ay ?e2ay ?e3ay)
                      case e1ay => rw [← HN.out]; omega
                      case e2ay => have := hsz; simp; omega
                      intro v5 w5 ho5 hb5
                      have hbl5 := hb5 _ _ (Nat.le_refl _) (bnew hbl)
                      clear hb5
                      go_wp2_with fail
                      go_roundw
                      case rel => exact ⟨k + 1, by omega, by go_num, by rw [Hst.out]; exact ho5, hbl5⟩
                      case measure => simp [intOf]; omega
                    · obtain ⟨n1, hn1⟩ : ∃ n1, N = n1 + 1 := ⟨N - 1, by omega⟩
                      have hn2 : (N : Int) - 1 = (n1 : Int) := by omega
                      have hn3 : (n1 : Int) < (N : Int) := by omega
                      have eN : decide (0 < (N : Int)) = true := decide_eq_true (by omega)
                      have eN2 : decide (0 < N) = true := decide_eq_true (by omega)
                      have hcl : w4.cell? ⟨g, n1 * 2 + 1, none⟩ = some (.int .i64 (L.getD n1 default).2) := by
                        rw [World.ownsRow.cellAt hown (n1 * 2 + 1) (by omega)]
                        exact rgC_get (by rw [← HN.out]; omega)
                      have hfz : w4.frozen? ⟨g, n1 * 2 + 1, none⟩ = false := World.ownsRow.frozenAt hown _
                      have hst := Hnext.out
                      unfold stepR at hst
                      rw [if_neg (by simp), ← HN.out, show N - 1 = n1 by omega] at hst
                      have hset : 0 < N → OutR v9.heap.size (w4.setCell ⟨g, n1 * 2 + 1, none⟩ (.int .i64 te)) (.slice (some ⟨g, 0, none⟩) N cap) (L.set n1 ((L.getD n1 default).1, te)) := fun _ => by
                        have := (World.ownsRow.stored hown (n1 * 2 + 1) (.int .i64 te)).1
                        rw [rgC_set (by rw [← HN.out]; omega)] at this
                        unfold OutR
                        rw [List.length_set, ← HN.out]
                        exact this
                      have Hset := Lib.hid hset
                      clear hset
                      generalize (L.getD n1 default).2 = tl at hcl hst
                      have Hn1 := Lib.hid hn1
                      clear hn1
                      by_cases htm : tl = m
                      · rw [if_pos ⟨by omega, htm⟩] at hst
                        have ht : (tl == m) = true := by simpa using htm
                        have Hst := Lib.hid hst
                        clear hst Hnext htm
                        go_wp2_with fail
                        go_roundw
                        case rel => exact ⟨k + 1, by omega, by go_num, by rw [Hst.out]; exact Hset.out (by omega), bput hgB2 hbl⟩
                        case measure => simp [intOf]; omega
                      · rw [if_neg (fun h => htm h.2)] at hst
                        have ht : (tl == m) = false := by simpa using htm
                        have Hst := Lib.hid hst
                        clear hst Hnext htm Hset
                        go_upto_region 35 with fail
                        go_wp2_with (at_builtin; refine rg_append (B := v9.heap.size) (m := m) (te := te) rfl (.tmp 135) (.tmp 139) rfl rfl w4.heap.size 1 rfl (hout3.below (below_eq rfl)) (Bx.new w4 33 #[.int .i64 m, .int .i64 te]) ?e1az ?e2az ?e3az)
                        case e1az => rw [← HN.out]; omega
                        case e2az => have := hsz; simp; omega
                        intro v5 w5 ho5 hb5
                        have hbl5 := hb5 _ _ (Nat.le_refl _) (bnew hbl)
                        clear hb5
                        go_wp2_with fail
                        go_roundw
                        case rel => exact ⟨k + 1, by omega, by go_num, by rw [Hst.out]; exact ho5, hbl5⟩
                        case measure => simp [intOf]; omega
                · rw [hce, Bool.true_and] at hal
                  cases hcn : (er1 != 0)
                  · rw [hcn, Bool.false_or] at hal
                    cases bq
                    · subst hal
                      rcases hout.form with ⟨rfl, rfl⟩ | ⟨g, cap, rfl, hgB2, hgl2, hout2⟩
                      · have hst : rngs M (alike2 ea eb) (min (k + 1) (n - 1)) = [] ++ [(m, te)] := by rw [Hnext.out]; unfold stepR; simp
                        have Hst := Lib.hid hst
                        clear hst Hnext hout
                        go_upto_region 35 with fail
                        go_wp2_with (at_builtin; refine rg_append (B := v9.heap.size) (m := m) (te := te) rfl (.tmp 135) (.tmp 139) rfl rfl w4.heap.size 1 rfl (OutR.nil _ _) (Bx.new w4 33 #[.int .i64 m, .int .i64 te]) ?e1bx ?e2bx ?e3bx)
                        case e1bx => simp
                        case e2bx => have := hsz; simp; omega
                        intro v5 w5 ho5 hb5
                        have hbl5 := hb5 _ _ (Nat.le_refl _) (bnew hbl)
                        clear hb5
                        go_wp2_with fail
                        go_roundw
                        case rel => exact ⟨k + 1, by omega, by go_num, by rw [Hst.out]; exact ho5, hbl5⟩
                        case measure => simp [intOf]; omega
                      · obtain ⟨N, hN⟩ : ∃ N, N = L.length := ⟨_, rfl⟩
                        rw [← hN] at hout2 hrl ⊢
                        have HN := Lib.hid hN
                        have hown : w4.ownsRow v9.heap.size 33 2 (.slice (some ⟨g, 0, none⟩) N cap) N (rgC L) := by have h0 := hout2; unfold OutR at h0; rw [← hN] at h0; exact h0
                        have hout3 := hout2
                        clear hN hout hout2
                        by_cases hN0 : N = 0
                        · have hst : rngs M (alike2 ea eb) (min (k + 1) (n - 1)) = L ++ [(m, te)] := by rw [Hnext.out]; unfold stepR; rw [if_neg (by simp), if_neg (by rw [← HN.out]; omega)]
                          have Hst := Lib.hid hst
                          have eN : decide (0 < (N : Int)) = false := decide_eq_false (by omega)
                          have eN2 : decide (0 < N) = false := decide_eq_false (by omega)
                          clear hst Hnext
                          go_upto_region 35 with fail
                          go_wp2_with (at_builtin; refine rg_append (B := v9.heap.size) (m := m) (te := te) rfl (.tmp 135) (.tmp 139) rfl rfl w4.heap.size 1 rfl (hout3.below (below_eq rfl)) (Bx.new w4 33 #[.int .i64 m, .int .i64 te]) ?e1by ?e2by ?e3by)
                          case e1by => rw [← HN.out]; omega
                          case e2by => have := hsz; simp; omega
                          intro v5 w5 ho5 hb5
                          have hbl5 := hb5 _ _ (Nat.le_refl _) (bnew hbl)
                          clear hb5
                          go_wp2_with fail
                          go_roundw
                          case rel => exact ⟨k + 1, by omega, by go_num, by rw [Hst.out]; exact ho5, hbl5⟩
                          case measure => simp [intOf]; omega
                        · obtain ⟨n1, hn1⟩ : ∃ n1, N = n1 + 1 := ⟨N - 1, by omega⟩
                          have hn2 : (N : Int) - 1 = (n1 : Int) := by omega
                          have hn3 : (n1 : Int) < (N : Int) := by omega
                          have eN : decide (0 < (N : Int)) = true := decide_eq_true (by omega)
                          have eN2 : decide (0 < N) = true := decide_eq_true (by omega)
                          have hcl : w4.cell? ⟨g, n1 * 2 + 1, none⟩ = some (.int .i64 (L.getD n1 default).2) := by
                            rw [World.ownsRow.cellAt hown (n1 * 2 + 1) (by omega)]
                            exact rgC_get (by rw [← HN.out]; omega)
                          have hfz : w4.frozen? ⟨g, n1 * 2 + 1, none⟩ = false := World.ownsRow.frozenAt hown _
                          have hst := Hnext.out
                          unfold stepR at hst
                          rw [if_neg (by simp), ← HN.out, show N - 1 = n1 by omega] at hst
                          have hset : 0 < N → OutR v9.heap.size (w4.setCell ⟨g, n1 * 2 + 1, none⟩ (.int .i64 te)) (.slice (some ⟨g, 0, none⟩) N cap) (L.set n1 ((L.getD n1 default).1, te)) := fun _ => by
                            have := (World.ownsRow.stored hown (n1 * 2 + 1) (.int .i64 te)).1
                            rw [rgC_set (by rw [← HN.out]; omega)] at this
                            unfold OutR
                            rw [List.length_set, ← HN.out]
                            exact this
                          have Hset := Lib.hid hset
                          clear hset
                          generalize (L.getD n1 default).2 = tl at hcl hst
                          have Hn1 := Lib.hid hn1
                          clear hn1
                          by_cases htm : tl = m
                          · rw [if_pos ⟨by omega, htm⟩] at hst
                            have ht : (tl == m) = true := by simpa using htm
                            have Hst := Lib.hid hst
                            clear hst Hnext htm
                            go_wp2_with fail
                            go_roundw
                            case rel => exact ⟨k + 1, by omega, by go_num, by rw [Hst.out]; exact Hset.out (by omega), bput hgB2 hbl⟩
                            case measure => simp [intOf]; omega
                          · rw [if_neg (fun h => htm h.2)] at hst
                            have ht : (tl == m) = false := by simpa using htm
                            have Hst := Lib.hid hst
                            clear hst Hnext htm Hset
                            go_upto_region 35 with fail
                            go_wp2_with (at_builtin; refine rg_append (B := v9.heap.size) (m := m) (te := te) rfl (.tmp 135) (.tmp 139) rfl rfl w4.heap.size 1 rfl (hout3.below (below_eq rfl)) (Bx.new w4 33 #[.int .i64 m, .int .i64 te]) ?e1bz ?e2bz ?e3bz)
                            case e1bz => rw [← HN.out]; omega
                            case e2bz => have := hsz; simp; omega
                            intro v5 w5 ho5 hb5
                            have hbl5 := hb5 _ _ (Nat.le_refl _) (bnew hbl)
                            clear hb5
                            go_wp2_with fail
                            go_roundw
                            case rel => exact ⟨k + 1, by omega, by go_num, by rw [Hst.out]; exact ho5, hbl5⟩
                            case measure => simp [intOf]; omega
                    · subst hal
                      have hst : rngs M (alike2 ea eb) (min (k + 1) (n - 1)) = L := by rw [Hnext.out]; unfold stepR; rw [if_pos rfl]
                      have Hst := Lib.hid hst
                      clear hst Hnext
                      go_wp2_with fail
                      go_roundw
                      case rel => exact ⟨k + 1, by omega, by go_num, by rw [Hst.out]; exact hout, hbl⟩
                      case measure => simp [intOf]; omega
                  · rw [hcn, Bool.true_or] at hal
                    subst hal
                    have hst : rngs M (alike2 ea eb) (min (k + 1) (n - 1)) = L := by rw [Hnext.out]; unfold stepR; rw [if_pos rfl]
                    have Hst := Lib.hid hst
                    clear hst Hnext
                    go_wp2_with fail
                    go_roundw
                    case rel => exact ⟨k + 1, by omega, by go_num, by rw [Hst.out]; exact hout, hbl⟩
                    case measure => simp [intOf]; omega
              · have hkn : k = n - 1 := by omega
                have hle := Hlast.out
                rw [← hkn] at hle
                generalize M.getD k 0 = m at hc0 hle
                have emt : decide (Lb ≤ m) = true := decide_eq_true hle
                have ek : decide ((k : Int) + 1 < (n : Int)) = false := decide_eq_false (by omega)
                have Hle := Lib.hid hle
                have hmn : min (k + 1) (n - 1) = min k (n - 1) := by omega
                have Hmn := Lib.hid hmn
                clear hle hmn hkn
                go_wp2_with fail
                go_roundw
                case rel => exact ⟨k + 1, by omega, by go_num, by rw [Hmn.out]; exact hout, hbl⟩
                case measure => simp [intOf]; omega
            · have ek : decide ((k : Int) < (n : Int)) = false := decide_eq_false (by omega)
              rw [show min k (n - 1) = n - 1 by omega, ← Hcm.out] at hout
              have hres := own_mono hout hWv
              have Hres := Lib.hid hres
              clear hres hout
              go_wp2_with fail
              go_ret
              exact ⟨_, rfl, Hres.out, B⟩
end Go.Proofs.YtfkiljhjiogdlaaDoor
