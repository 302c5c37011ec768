/- dyeref1.Join. (printed by gen_jnb.py) -/
import Derived.Test.YtccbhghpghijiaaJnF
import Derived.Test.YtccbhghpghijiaaJnM
import Derived.Test.YtccbhghpghijiaaFcA
import Derived.Test.YtccbhghpghijiaaCln
import Derived.Test.YtccbhghpghijiaaGrd
import Derived.Deep.DeepCutAuto
namespace Go.Proofs.Ytccbhghpghijiaa
open Go.RowKit


/-- dyeref1.Join's own memory. -/
def MSt (W : World) (x y w h : Int) (r p7 : Nat) (E : List ((Int × Int) × Value)) (wr : World) : Prop :=
  Bx wr W.heap.size 23 #[.int .i64 x, .int .i64 y, .int .i64 w, .int .i64 h] ∧ Bx wr (W.heap.size + 1) 26 #[.int .i64 0, .int .i64 0, .int .i64 0, .int .i64 0, .slice none 0 0] ∧
  Bx wr p7 50 #[.map (some r)] ∧ MapB wr r E ∧ Below W.heap.size W wr
theorem MSt.keep {W wr w' : World} {x y w h : Int} {r p7 : Nat} {E : List ((Int × Int) × Value)} (s : MSt W x y w h r p7 E wr) (hb : Below wr.heap.size wr w') : MSt W x y w h r p7 E w' := by
  obtain ⟨h1, h2, h3, h4, h5⟩ := s
  exact ⟨h1.keep hb, h2.keep hb, h3.keep hb, h4.keep hb, bcall h5 hb⟩
theorem MSt.set {W wr : World} {x y w h : Int} {r p7 : Nat} {E : List ((Int × Int) × Value)} (s : MSt W x y w h r p7 E wr) (h1 : W.heap.size + 1 < r) (h2 : r < p7) (E' : List ((Int × Int) × Value)) : MSt W x y w h r p7 E' (setMap wr r E') := by
  obtain ⟨q1, q2, q3, q4, q5⟩ := s
  exact ⟨q1.setMap (by omega), q2.setMap (by omega), q3.setMap (by omega), q4.set E', below_setMap q5 (by omega)⟩
def pvv (z : Fr × Nat) : Value := pixV z.1.V z.2
/-- The map has the pixels of the places that are filled. -/
def MapS (E : List ((Int × Int) × Value)) (S : Int × Int → Option (Fr × Nat)) : Prop := ∀ p, findE E p = (S p).map pvv
theorem MapS.congr {E : List ((Int × Int) × Value)} {S S' : Int × Int → Option (Fr × Nat)} (h : MapS E S) (he : ∀ p, S' p = S p) : MapS E S' := fun p => by rw [he p]; exact h p
theorem MapS.step {E : List ((Int × Int) × Value)} {L : List Fr} {m j i fw fh : Nat} (h : MapS E (srcAt L m j i)) (hw : (L.getD m default).w = fw) (hh : (L.getD m default).h = fh) (hi : i < fw) (hj : j < fh) :
    MapS (E ++ [(ptAt (L.getD m default) j i, pixV (L.getD m default).V (j * fw + i))]) (srcAt L m j (i + 1)) := fun p => by
  rw [findE_append, srcAt_step L m j i fw fh p hw hh hi hj, h p]
  cases srcAt L m j i p with
  | some z => rfl
  | none =>
    rw [Option.none_or, Option.map_none, Option.none_or]
    split <;> rfl

theorem val4 (x y : Int) (w : Nat) (L : List Fr) (m p : Nat) : ((src L m (pOf x y w p)).map pvv).getD zeroPix = .agg #[.float .f32 (outP x y w L m p 0), .float .f32 (outP x y w L m p 1), .float .f32 (outP x y w L m p 2), .float .f32 (outP x y w L m p 3)] := by
  unfold outP
  cases src L m (pOf x y w p) with
  | none => rfl
  | some z => rfl
set_option maxRecDepth 100000 in
set_option maxHeartbeats 1000000 in
theorem join_makes {W : World} {r p7 : Nat} {x y : Int} {w h : Nat} {E : List ((Int × Int) × Value)} {L : List Fr} {m : Nat} (hm : MapB W r E) (hp : Bx W p7 50 #[.map (some r)]) (hS : MapS E (src L m)) :
    Makes W 25 #[.pointer (some ⟨p7, 0, none⟩)] x y w h (outP x y w L m) := by
  refine ⟨fun args u => ?_, fun i j u hi hj hu => ?_⟩
  · exact call_enter Try.func25 (by kernel_rfl) (by kernel_rfl) _ _
  · have hv := val4 x y w L m (j * w + i)
    rw [(pOf_iff (x := x) (y := y) (w := w) (k := j * w + i) (j := j) (i := i) hi).2 rfl, ← hS (x + (i : Int), y + (j : Int))] at hv
    have hm1 := hm.keep hu
    have hp1 := hp.keep hu
    clear hm hp hu hS hi hj
    generalize outP x y w L m (j * w + i) 0 = v0 at *
    generalize outP x y w L m (j * w + i) 1 = v1 at *
    generalize outP x y w L m (j * w + i) 2 = v2 at *
    generalize outP x y w L m (j * w + i) 3 = v3 at *
    have Hv := Lib.hid hv
    clear hv
    go_enter Try.func25, Try.ntmps25
    go_upto_region 1 with fail
    refine name_world ?_
    intro wb hwb
    have B1 : Below u.heap.size u wb := by rw [hwb]; exact bnew (Below.refl _ u)
    have xr : Bx wb u.heap.size 52 #[.float .f32 0, .float .f32 0, .float .f32 0, .float .f32 0] := by rw [hwb]; exact Bx.new _ _ _
    clear hwb
    have hm2 := hm1.keep B1
    have hp2 := hp1.keep B1
    have hlk := run_lookup_pt1 hm2 (x + (i : Int), y + (j : Int))
    rw [Hv.out] at hlk
    unfold ptV at hlk
    clear hm1 hp1 hm2
    obtain ⟨q2, f2, l2⟩ := hp2.all
    obtain ⟨q5, f5, l5⟩ := xr.all
    go_wp2_with fail
    refine bodyPost_ret (v := .agg #[.float .f32 v0, .float .f32 v1, .float .f32 v2, .float .f32 v3]) (by simp [results, Try.results25, go_sem, q5]) rfl ⟨rfl, ?_⟩
    exact bput (by omega) (bput (by omega) (bput (by omega) (bput (by omega) B1)))

set_option maxRecDepth 100000 in
set_option maxHeartbeats 4000000 in
theorem ref_Join_bad (x y w h : Int) (v : Value) (L : List Fr) (W : World) (h0 : checkRegion x y w h ≠ 0) :
    Calls Try.prog 7 #[.agg #[.int .i64 x, .int .i64 y, .int .i64 w, .int .i64 h], v] W (JoinR x y w h L W) := by
  have HC := Lib.hid (fun w' => ref_RegionError x y w h w')
  have HE := Lib.hid (joinErr_region (L := L) h0)
  have H0 := Lib.hid h0
  have e0 : (checkRegion x y w h != 0) = true := by simpa using h0
  clear h0
  generalize checkRegion x y w h = er at *
  go_enter Try.func7, Try.ntmps7
  go_upto_region 1 with fail
  refine name_world ?_
  intro w0 hw0
  have x2 : Bx w0 W.heap.size 23 #[.int .i64 x, .int .i64 y, .int .i64 w, .int .i64 h] := by rw [hw0]; exact (Bx.new _ _ _).alloc _
  have x4 : Bx w0 (W.heap.size + 1) 26 #[.int .i64 0, .int .i64 0, .int .i64 0, .int .i64 0, .slice none 0 0] := by rw [hw0]; exact Bx.at _ (by simp)
  have B : Below W.heap.size W w0 := by rw [hw0]; exact bnew (bnew (Below.refl _ W))
  clear hw0
  obtain ⟨q2, f2, l2⟩ := x2.all
  go_wp2_with fail
  refine (HC.out _).mono ?_
  rintro e w1 ⟨rfl, hb⟩
  replace x4 := x4.keep hb
  replace B := bcall B hb
  clear hb q2 f2 l2 x2
  obtain ⟨q4, f4, l4⟩ := x4.all
  go_wp2_with fail
  refine bodyPost_ret (v := .tuple #[.agg #[.int .i64 0, .int .i64 0, .int .i64 0, .int .i64 0, .slice none 0 0], .int .i64 er]) (by simp [results, Try.results7, go_sem, q4]) rfl (JoinR.bad HE.out H0.out (bput (by omega) (bput (by omega) (bput (by omega) (bput (by omega) (bput (by omega) (B)))))))

set_option maxRecDepth 100000 in
set_option maxHeartbeats 16000000 in
theorem ref_Join_ok (x y w h : Int) (v : Value) (L : List Fr) (W : World) (hs : SlF W v L) (hr : checkRegion x y w h = 0) :
    Calls Try.prog 7 #[.agg #[.int .i64 x, .int .i64 y, .int .i64 w, .int .i64 h], v] W (JoinR x y w h L W) := by
  obtain ⟨b1, b2, b3, b4, b5, b6, b7, b8, b9⟩ := Go.Proofs.Ytccbhghpghijiaa.checkRegion_ok hr
  obtain ⟨rw, rfl⟩ : ∃ n : Nat, w = n := ⟨w.toNat, by omega⟩
  obtain ⟨rh, rfl⟩ : ∃ n : Nat, h = n := ⟨h.toNat, by omega⟩
  have Hr := Lib.hid hr
  have HC : Hid (∀ w', Calls Try.prog 20 #[.agg #[.int .i64 x, .int .i64 y, .int .i64 (rw : Int), .int .i64 (rh : Int)]] w' fun e w'' => e = .returned (.int .i64 0) ∧ Below w'.heap.size w' w'') := Lib.hid fun w' => by rw [← hr]; exact ref_RegionError _ _ _ _ _
  obtain ⟨la, lc, rfl, hmax, hform, hok⟩ := hs
  obtain ⟨n, hn⟩ : ∃ n, n = L.length := ⟨_, rfl⟩
  rw [← hn] at hmax hok ⊢
  unfold maxLen at hmax
  have Hn := Lib.hid hn
  have Hok := Lib.hid hok
  have hat : Hid (0 < n → ∃ b o, la = some ⟨b, o, none⟩ ∧ b < W.heap.size ∧ ∀ k, k < n → FrAt W b (o + k * 5) (L.getD k default)) := Lib.hid fun h0 => by
    rcases hform with h1 | h1
    · exfalso; rw [hn, h1] at h0; simp at h0
    · rw [← hn] at h1; exact h1
  obtain ⟨M, hM⟩ : ∃ M : Nat, (rw : Int) * (rh : Int) = (M : Int) := ⟨rw * rh, by simp⟩
  have hMn : rw * rh = M := by exact_mod_cast hM
  have hM1 : M ≤ 16384 := by omega
  have HM := Lib.hid (And.intro hM hMn)
  clear hr hform hok hn hMn b5
  go_enter Try.func7, Try.ntmps7
  go_upto_region 1 with fail
  refine name_world ?_
  intro w0 hw0
  have x2 : Bx w0 W.heap.size 23 #[.int .i64 x, .int .i64 y, .int .i64 (rw : Int), .int .i64 (rh : Int)] := by rw [hw0]; exact (Bx.new _ _ _).alloc _
  have x4 : Bx w0 (W.heap.size + 1) 26 #[.int .i64 0, .int .i64 0, .int .i64 0, .int .i64 0, .slice none 0 0] := by rw [hw0]; exact Bx.at _ (by simp)
  have B : Below W.heap.size W w0 := by rw [hw0]; exact bnew (bnew (Below.refl _ W))
  clear hw0
  obtain ⟨q2, f2, l2⟩ := x2.all
  go_wp2_with fail
  refine (HC.out _).mono ?_
  rintro e w1 ⟨rfl, hb⟩
  replace x2 := x2.keep hb
  replace x4 := x4.keep hb
  replace B := bcall B hb
  clear hb q2 f2 l2 HC
  have l4 := x4.lt
  have hmk := run_makeMap_pt w1
  go_upto_region 5 with fail
  refine name_world ?_
  intro w2 hw2
  obtain ⟨r, hr⟩ : ∃ r, r = w1.heap.size := ⟨_, rfl⟩
  obtain ⟨p7, hp7⟩ : ∃ p, p = r + 1 := ⟨_, rfl⟩
  have hb1 : Below w1.heap.size w1 (w1.alloc (.map #[] 0)) := (Below.refl _ _).alloc (Nat.le_refl _) _
  have hb2 : Below (w1.alloc (.map #[] 0)).heap.size (w1.alloc (.map #[] 0)) w2 := by rw [hw2]; exact (Below.refl _ _).alloc (Nat.le_refl _) _
  have st : MSt W x y rw rh r p7 [] w2 := by
    refine ⟨(x2.keep hb1).keep hb2, (x4.keep hb1).keep hb2, ?_, ?_, bcall (bcall B hb1) hb2⟩
    · rw [hw2, hp7, hr]; exact Bx.at _ (by simp)
    · rw [hr]; exact (MapB.new w1).keep hb2
  rw [← hr, ← hp7]
  have hap1 : W.heap.size + 1 < r := by omega
  have hap2 : r < p7 := by omega
  clear hb1 hb2 hw2 hr hp7 x2 x4 B l4 hmk
  have Hfs : Hid (MapS [] (src L 0)) := Lib.hid fun p => by rw [src_zero]; rfl
  go_wp2_with fail
  go_loopw [24] (fun i wr => ∃ (m : Nat) (E : List ((Int × Int) × Value)), m ≤ n ∧ i = .int .i64 (m : Int) ∧ Hid (joinTo x y rw rh L m = 0) ∧ Hid (MapS E (src L m)) ∧ Hid (E.length = cntF L m) ∧ MSt W x y rw rh r p7 E wr) (fun i _ => n - (intOf i).toNat)
  case atStart => exact ⟨0, [], by omega, rfl, Lib.hid rfl, Hfs, Lib.hid rfl, st⟩
  case round =>
    clear st Hfs
    obtain ⟨m, E, hm, rfl, Hz, Hfs, Hct, st⟩ := hrel
    by_cases hlt : m < n
    · have hmi : (m : Int) < (n : Int) := by omega
      obtain ⟨b, o, rfl, hbl, hat1⟩ := hat.out (by omega)
      obtain ⟨c0, c1, c2, c3, c4⟩ := (hat1 m hlt).keep st.2.2.2.2 hbl
      obtain ⟨hsl, hfc, hfm⟩ := (Hok.out m hlt).keep st.2.2.2.2
      have HJ : Hid (∀ er : Int, er ≠ 0 → joinAt x y rw rh L m = er → joinErr x y rw rh L = er) := Lib.hid fun er h0 ha => joinErr_at Hr.out (by rw [← Hn.out]; exact hlt) Hz.out h0 ha
      have HJ2 : Hid (joinAt x y rw rh L m = 0 → joinTo x y rw rh L (m + 1) = 0) := Lib.hid fun ha => by rw [joinTo, if_neg (by rw [Hz.out]; simp)]; exact ha
      clear hat1 Hz
      obtain ⟨f, hf⟩ : ∃ f, f = L.getD m default := ⟨_, rfl⟩
      have Hf := Lib.hid hf
      unfold joinAt at HJ HJ2
      rw [← hf] at c0 c1 c2 c3 c4 hsl hfc hfm HJ HJ2
      clear hf
      unfold Fr.pv at c4 hsl
      have hsz := st.2.2.1.lt
      go_upto_region 8 with fail
      refine name_world ?_
      intro w3 hw3
      obtain ⟨p11, hp11⟩ : ∃ p, p = wr.heap.size := ⟨_, rfl⟩
      have x11 : Bx w3 p11 26 #[.int .i64 f.x, .int .i64 f.y, .int .i64 f.w, .int .i64 f.h, .slice f.a f.V.length f.c] := by rw [hw3, hp11]; exact Bx.new _ _ _
      have hbb : Below wr.heap.size wr w3 := by rw [hw3]; exact (Below.refl _ _).alloc (Nat.le_refl _) _
      replace st := st.keep hbb
      replace hsl := hsl.keep hbb
      rw [show wr.heap.size = p11 from hp11.symm]
      have hpp : p7 < p11 := by omega
      clear hbb hw3 c0 c1 c2 c3 c4 hp11 hsz
      obtain ⟨q11, f11, l11⟩ := x11.all
      go_wp2_with fail
      refine (ref_FrameError _ _ _ _ _ _ _ _).mono ?_
      rintro e w4 ⟨rfl, hb⟩
      replace st := st.keep hb
      replace x11 := x11.keep hb
      replace hsl := hsl.keep hb
      clear hb q11 f11 l11
      have herr : checkFrame f.x f.y f.w f.h f.V.length = f.err := rfl
      rw [herr]
      clear herr
      obtain ⟨q11, f11, l11⟩ := x11.all
      by_cases hfe : f.err = 0
      rotate_left
      · have HE := Lib.hid (HJ.out f.err hfe (by rw [if_pos hfe]))
        have e0 : (f.err != 0) = true := by simpa using hfe
        have H0 := Lib.hid hfe
        clear hfe HJ HJ2
        generalize f.err = er at *
        obtain ⟨x2, x4, x7, xm, B⟩ := st
        obtain ⟨q4, f4, l4⟩ := x4.all
        clear q11 f11 l11 x11 x2 x7 xm
        go_wp2_with fail
        refine bodyPost_ret (v := .tuple #[.agg #[.int .i64 0, .int .i64 0, .int .i64 0, .int .i64 0, .slice none 0 0], .int .i64 er]) (by simp [results, Try.results7, go_sem, q4]) rfl (JoinR.bad HE.out H0.out (bput (by omega) (bput (by omega) (bput (by omega) (bput (by omega) (bput (by omega) (B)))))))
      rw [hfe]
      obtain ⟨hfr, hfn⟩ := Fr.right hfe
      obtain ⟨d1, d2, d3, d4, d5, d6, d7, d8, d9⟩ := checkRegion_ok hfr
      have HIn : Hid (∀ w', Calls Try.prog 22 #[.agg #[.int .i64 f.x, .int .i64 f.y, .int .i64 f.w, .int .i64 f.h], .agg #[.int .i64 x, .int .i64 y, .int .i64 (rw : Int), .int .i64 (rh : Int)]] w' fun e w'' => e = .returned (.bool (inB f.x f.y f.w f.h x y rw rh)) ∧ Below w'.heap.size w' w'') := Lib.hid fun w' => ref_Inside _ _ _ _ _ _ _ _ w' (by omega) (by omega) (by omega) (by omega) (by omega) (by omega) (by omega) (by omega) (by omega) (by omega) (by omega) (by omega)
      obtain ⟨x2, x4, x7, xm, B⟩ := st
      obtain ⟨q2, f2, l2⟩ := x2.all
      go_wp2_with fail
      refine (HIn.out _).mono ?_
      rintro e w5 ⟨rfl, hb⟩
      have st : MSt W x y rw rh r p7 E w4 := ⟨x2, x4, x7, xm, B⟩
      replace st := st.keep hb
      replace x11 := x11.keep hb
      replace hsl := hsl.keep hb
      clear hb q11 f11 l11 HIn q2 f2 l2 x2 x4 x7 xm B
      obtain ⟨q11, f11, l11⟩ := x11.all
      cases hib : inB f.x f.y f.w f.h x y rw rh
      · have HE := Lib.hid (HJ.out 5 (by decide) (by rw [if_neg (by rw [hfe]; simp), if_pos hib]))
        clear HJ HJ2
        obtain ⟨x2, x4, x7, xm, B⟩ := st
        obtain ⟨q4, f4, l4⟩ := x4.all
        clear q11 f11 l11 x11 x2 x7 xm
        go_wp2_with fail
        refine bodyPost_ret (v := .tuple #[.agg #[.int .i64 0, .int .i64 0, .int .i64 0, .int .i64 0, .slice none 0 0], .int .i64 5]) (by simp [results, Try.results7, go_sem, q4]) rfl (JoinR.bad HE.out (by decide) (bput (by omega) (bput (by omega) (bput (by omega) (bput (by omega) (bput (by omega) (B)))))))
      obtain ⟨i1, i2, i3, i4⟩ := inB_true hib
      rw [if_neg (by rw [hfe]; simp), if_neg (by rw [hib]; simp)] at HJ2
      have HJ7 : Hid (dupB L m = true → joinErr x y rw rh L = 7) := Lib.hid fun hd => HJ.out 7 (by decide) (by rw [if_neg (by rw [hfe]; simp), if_neg (by rw [hib]; simp), if_pos hd])
      clear HJ hib
      obtain ⟨fx, hfx⟩ : ∃ z, z = f.x := ⟨_, rfl⟩
      obtain ⟨fy, hfy⟩ : ∃ z, z = f.y := ⟨_, rfl⟩
      obtain ⟨fw, hfw⟩ : ∃ z : Nat, f.w = (z : Int) := ⟨f.w.toNat, by omega⟩
      obtain ⟨fh, hfh⟩ : ∃ z : Nat, f.h = (z : Int) := ⟨f.h.toNat, by omega⟩
      obtain ⟨fn, hfnn⟩ : ∃ z, z = f.V.length := ⟨_, rfl⟩
      have HFa := Lib.hid (And.intro hfw hfh)
      have HFb := Lib.hid (And.intro hfx hfy)
      have HFn := Lib.hid hfnn
      rw [← hfnn] at hfn x11 hfc hfm hsl
      rw [← hfx] at x11 d6 d7 i1 i3
      rw [← hfy] at x11 d8 d9 i2 i4
      rw [hfw] at x11 hfn d1 d2 d5 d7 i3
      rw [hfh] at x11 hfn d3 d4 d5 d9 i4
      clear hfx hfy hfw hfh hfnn hfr hfe q11 f11 l11
      obtain ⟨fa, hfa0⟩ : ∃ z, f.a = z := ⟨_, rfl⟩
      rw [hfa0] at x11
      have HFaa := Lib.hid hfa0
      clear hsl hfa0
      generalize f.c = fc at *
      obtain ⟨q11, f11, l11⟩ := x11.all
      go_wp2_with fail
      have Hw : Hid ((L.getD m default).w = fw) := Lib.hid (by rw [← Hf.out]; exact HFa.out.1)
      have Hh : Hid ((L.getD m default).h = fh) := Lib.hid (by rw [← Hf.out]; exact HFa.out.2)
      have Hfn := Lib.hid hfn
      obtain ⟨b2, o2, hfa, hb2l, hrd2⟩ : ∃ b2 o2, fa = some ⟨b2, o2, none⟩ ∧ b2 < W.heap.size ∧ Rd W b2 o2 f.V := by
        obtain ⟨hs1, _, _⟩ := Hok.out m hlt
        rw [← Hf.out] at hs1
        unfold Fr.pv at hs1
        rw [← HFn.out] at hs1
        rcases hs1 with ⟨b2, o2, c2, h1, h2, h3⟩ | ⟨h1, _⟩
        · injection h1 with h1
          exact ⟨b2, o2, HFaa.out.symm.trans h1, h3.lt, h3⟩
        · exfalso
          have h4 := HFn.out
          rw [h1] at h4
          have h5 := Hfn.out
          have h6 := Int.mul_pos (show (0 : Int) < 4 * (fw : Int) by omega) (show (0 : Int) < (fh : Int) by omega)
          simp at h4
          omega
      subst hfa
      have HP : Hid (∀ (j i : Nat) (w' : World), j < fh → i < fw → Below W.heap.size W w' → Calls Try.prog 23 #[.agg #[.int .i64 fx, .int .i64 fy, .int .i64 (fw : Int), .int .i64 (fh : Int), .slice (some ⟨b2, o2, none⟩) fn fc], .int .i64 (fx + (i : Int)), .int .i64 (fy + (j : Int))] w' fun e w'' => e = .returned (pixV f.V (j * fw + i)) ∧ Below w'.heap.size w' w'') := Lib.hid fun j i w' hj hi hb => by
        have h := ref_PixelAt fx fy fw fh (fx + (i : Int)) (fy + (j : Int)) b2 o2 fn fc f.V w' (by omega) (by omega) (by omega) (by omega) (by omega) (by omega) (by omega) (by omega) Hfn.out hfc (by rw [← HFn.out]) (hrd2.keep hb)
        rw [pixNo_at fx fy fw fh i j hi hj] at h
        exact h
      clear i1 i2 i3 i4 hfn hrd2
      go_loopw [11] (fun s11 wr => ∃ (j : Nat) (E : List ((Int × Int) × Value)), j ≤ fh ∧ s11 = .int .i64 (fy + (j : Int)) ∧ Hid (E.length = cntF L m + j * fw) ∧ Hid (∀ j' i', j' < j → i' < fw → src L m (ptAt (L.getD m default) j' i') = none) ∧ Hid (MapS E (srcAt L m j 0)) ∧ MSt W x y rw rh r p7 E wr ∧ Bx wr p11 26 #[.int .i64 fx, .int .i64 fy, .int .i64 (fw : Int), .int .i64 (fh : Int), .slice (some ⟨b2, o2, none⟩) fn fc]) (fun s11 _ => (fy + fh - intOf s11).toNat)
      case atStart => exact ⟨0, E, by omega, by simp, Lib.hid (by rw [Hct.out]; simp), Lib.hid fun j' i' h => by omega, Lib.hid (Hfs.out.congr fun p => srcAt_start L m p), st, x11⟩
      case round =>
        clear st Hfs x11 q11 f11 l11 Hct
        obtain ⟨j, E, hj, rfl, Hct, Hno, Hfs, st, x11⟩ := hrel
        obtain ⟨q11, f11, l11⟩ := x11.all
        by_cases hjl : j < fh
        · have hjl' : (j : Int) < (fh : Int) := by omega
          have hjlt : fy + (j : Int) < fy + (fh : Int) := by omega
          go_wp2_with fail
          go_loopw [12] (fun s12 wr => ∃ (i : Nat) (E : List ((Int × Int) × Value)), i ≤ fw ∧ s12 = .int .i64 (fx + (i : Int)) ∧ Hid (E.length = cntF L m + (j * fw + i)) ∧ Hid (∀ i', i' < i → src L m (ptAt (L.getD m default) j i') = none) ∧ Hid (MapS E (srcAt L m j i)) ∧ MSt W x y rw rh r p7 E wr ∧ Bx wr p11 26 #[.int .i64 fx, .int .i64 fy, .int .i64 (fw : Int), .int .i64 (fh : Int), .slice (some ⟨b2, o2, none⟩) fn fc]) (fun s12 _ => (fx + fw - intOf s12).toNat)
          case atStart => exact ⟨0, E, by omega, by simp, Lib.hid (by rw [Hct.out, Nat.add_zero]), Lib.hid fun i' h => by omega, Hfs, st, x11⟩
          case round =>
            clear st Hfs x11 q11 f11 l11 Hct
            obtain ⟨i, E, hi, rfl, Hct, Hno2, Hfs, st, x11⟩ := hrel
            obtain ⟨q11, f11, l11⟩ := x11.all
            by_cases hil : i < fw
            · have hilt : fx + (i : Int) < fx + (fw : Int) := by omega
              have hpt : ptAt (L.getD m default) j i = (fx + (i : Int), fy + (j : Int)) := by unfold ptAt; rw [← Hf.out, ← HFb.out.1, ← HFb.out.2]
              have hfind := Hfs.out (ptAt (L.getD m default) j i)
              rw [srcAt_here, hpt] at hfind
              obtain ⟨x2, x4, x7, xm, B⟩ := st
              obtain ⟨q7, f7, l7⟩ := x7.all
              have hlk := run_lookup_pt xm (fx + (i : Int), fy + (j : Int))
              rw [hfind] at hlk
              unfold ptV at hlk
              have hsz := B.size
              cases hs : src L m (fx + (i : Int), fy + (j : Int)) with
              | none =>
                rw [hs] at hlk hfind
                simp only [Option.map_none, Option.getD_none, Option.isSome_none] at hlk
                unfold zeroPix at hlk
                have HPx : Hid (∀ w', Below W.heap.size W w' → Calls Try.prog 23 #[.agg #[.int .i64 fx, .int .i64 fy, .int .i64 (fw : Int), .int .i64 (fh : Int), .slice (some ⟨b2, o2, none⟩) fn fc], .int .i64 (fx + (i : Int)), .int .i64 (fy + (j : Int))] w' fun e w'' => e = .returned (pixV f.V (j * fw + i)) ∧ Below w'.heap.size w' w'') := Lib.hid fun w' hb => HP.out j i w' hjl hil hb
                have Hnf : Hid (findE E (fx + (i : Int), fy + (j : Int)) = none) := Lib.hid hfind
                have Hno3 : Hid (∀ i', i' < i + 1 → src L m (ptAt (L.getD m default) j i') = none) := Lib.hid fun i' h1 => by
                  rcases Nat.lt_or_eq_of_le (Nat.le_of_lt_succ h1) with h | rfl
                  · exact Hno2.out i' h
                  · rw [hpt]; exact hs
                have Hfs2 : Hid (MapS (E ++ [((fx + (i : Int), fy + (j : Int)), pixV f.V (j * fw + i))]) (srcAt L m j (i + 1))) := Lib.hid (by
                  have h := Hfs.out.step Hw.out Hh.out hil hjl
                  rw [hpt, ← Hf.out] at h
                  exact h)
                have Hct2 : Hid ((E ++ [((fx + (i : Int), fy + (j : Int)), pixV f.V (j * fw + i))]).length = cntF L m + (j * fw + (i + 1))) := Lib.hid (by rw [List.length_append, Hct.out]; simp; omega)
                clear hfind Hno2 Hfs Hct hs hpt
                go_upto_region 20 with fail
                refine name_world ?_
                intro w8 hw8
                have hbb : Below wr.heap.size wr w8 := by rw [hw8]; exact (Below.refl _ _).alloc (Nat.le_refl _) _
                have st : MSt W x y rw rh r p7 E w8 := MSt.keep ⟨x2, x4, x7, xm, B⟩ hbb
                replace x11 := x11.keep hbb
                clear hbb hw8 hlk x2 x4 x7 xm B q7 f7 l7 q11 f11 l11 hsz
                obtain ⟨x2, x4, x7, xm, B⟩ := st
                have hsz := B.size
                go_upto_region 22 with fail
                refine wp_region_grd 8 (fun _ => false) (fun q u w' => u = [.map (some r), .int .i64 (fx + (i : Int)), .int .i64 (fy + (j : Int)), .agg #[.int .i64 (fx + (i : Int)), .int .i64 (fy + (j : Int))], .agg #[.int .i64 fx, .int .i64 fy, .int .i64 (fw : Int), .int .i64 (fh : Int), .slice (some ⟨b2, o2, none⟩) fn fc], .int .i64 (fx + (i : Int)), .int .i64 (fy + (j : Int)), pixV f.V (j * fw + i)].getD q undef) (fun _ => false) (fun w' => Below w8.heap.size w8 w') (by kernel_rfl) (by kernel_rfl) (fun _ _ _ _ _ h => h)
                  (fun _ _ h e => e.trans (h.mono e.size)) (fun t u a' b' hb h => ?_) (Below.refl _ _).drew ?_ ?_ ?_
                · exact h
                · intro t op ht hlt hop
                  clear hlt
                  rcases (by omega : t = 0 ∨ t = 1 ∨ t = 2 ∨ t = 3 ∨ t = 4 ∨ t = 5 ∨ t = 6 ∨ t = 7) with rfl | rfl | rfl | rfl | rfl | rfl | rfl | rfl
                  all_goals simp only [List.getElem?_cons_zero, List.getElem?_cons_succ, Option.some.injEq] at hop
                  all_goals subst hop
                  all_goals intro a wx hE hag hdep
                  · refine grd_none rfl ?_
                    have e0 := slot_eq (hag 7 rfl)
                    have hq := (x7.keep hE).all.1
                    exact rel_pure _ rfl rfl (by simp [go_sem, e0, hq])
                  · refine grd_none rfl ?_
                    have e0 := slot_eq (hag 12 rfl)
                    exact rel_pure _ rfl rfl (by simp [go_sem, e0])
                  · refine grd_none rfl ?_
                    have e0 := slot_eq (hag 11 rfl)
                    exact rel_pure _ rfl rfl (by simp [go_sem, e0])
                  · refine grd_none rfl ?_
                    have e0 := slot_eq (hdep ⟨1, .data⟩ (by simp) rfl)
                    have e1 := slot_eq (hdep ⟨2, .data⟩ (by simp) rfl)
                    exact rel_pure _ rfl rfl (by simp [go_sem, e0, e1])
                  · refine grd_none rfl ?_
                    have e0 := slot_eq (hag 9 rfl)
                    have hq := (x11.keep hE).all.1
                    exact rel_pure _ rfl rfl (by simp [go_sem, e0, hq])
                  · refine grd_none rfl ?_
                    have e0 := slot_eq (hag 12 rfl)
                    exact rel_pure _ rfl rfl (by simp [go_sem, e0])
                  · refine grd_none rfl ?_
                    have e0 := slot_eq (hag 11 rfl)
                    exact rel_pure _ rfl rfl (by simp [go_sem, e0])
                  · refine grd_none rfl ?_
                    have e0 := slot_eq (hdep ⟨4, .data⟩ (by simp) rfl)
                    have e1 := slot_eq (hdep ⟨5, .data⟩ (by simp) rfl)
                    have e2 := slot_eq (hdep ⟨6, .data⟩ (by simp) rfl)
                    refine rel_call (f := 23) (args := #[.agg #[.int .i64 fx, .int .i64 fy, .int .i64 (fw : Int), .int .i64 (fh : Int), .slice (some ⟨b2, o2, none⟩) fn fc], .int .i64 (fx + (i : Int)), .int .i64 (fy + (j : Int))]) (run_go_call Try.func23 (by kernel_rfl) (by kernel_rfl) _ _ _ _ _ _ _ _ _ _ (by simp [Act.eval, e0, e1, e2])) rfl ?_
                    refine (HPx.out wx (B.trans (hE.mono hsz))).mono ?_
                    rintro e w' ⟨rfl, hbx⟩
                    exact ⟨_, rfl, rfl, hbx⟩
                · intro t op ht hlt; cases hlt
                intro vs wy hE hvs _
                have k0 : vs 0 = .map (some r) := hvs 0 (by omega)
                have k3 : vs 3 = .agg #[.int .i64 (fx + (i : Int)), .int .i64 (fy + (j : Int))] := hvs 3 (by omega)
                have k7 : vs 7 = pixV f.V (j * fw + i) := hvs 7 (by omega)
                simp only [List.drop_succ_cons, List.drop_zero, putAll, dstAt, List.getElem?_toArray, List.getElem?_cons_zero, List.getElem?_cons_succ, Option.bind_some, Act.put, List.setIfInBounds_toArray, List.set_cons_zero, List.set_cons_succ, k0, k3, k7]
                clear hvs k0 k3 k7
                have st : MSt W x y rw rh r p7 E wy := MSt.keep ⟨x2, x4, x7, xm, B⟩ hE
                replace x11 := x11.keep hE
                clear x2 x4 x7 xm B hE hsz
                have hup := run_mapUpdate_pt st.2.2.2.1 (fx + (i : Int), fy + (j : Int)) (pixV f.V (j * fw + i)) Hnf.out
                unfold ptV at hup
                replace st := st.set hap1 hap2 (E ++ [((fx + (i : Int), fy + (j : Int)), pixV f.V (j * fw + i))])
                have hp11 : p11 ≠ r := by omega
                have X11 := x11.setMap (E := E ++ [((fx + (i : Int), fy + (j : Int)), pixV f.V (j * fw + i))]) hp11
                obtain ⟨E2, hE2⟩ : ∃ E2, E2 = E ++ [((fx + (i : Int), fy + (j : Int)), pixV f.V (j * fw + i))] := ⟨_, rfl⟩
                rw [← hE2] at hup st X11 Hct2 Hfs2
                clear hE2 x11 hp11 Hnf HPx
                generalize pixV f.V (j * fw + i) = pv at *
                go_wp2_with fail
                go_roundw
                case rel => exact ⟨i + 1, E2, by omega, by go_num, Hct2, Hno3, Hfs2, st, X11⟩
                case measure => simp [intOf]; omega
              | some z =>
                rw [hs] at hlk
                simp only [Option.map_some, Option.getD_some, Option.isSome_some, pvv, pixV] at hlk
                have HE := Lib.hid (HJ7.out (dup_of (j := j) (i := i) (by rw [Hh.out]; omega) (by rw [Hw.out]; omega) (by rw [hpt, hs]; rfl)))
                clear Hct Hfs Hno2 hs hpt x2 xm hfind
                go_upto_region 20 with fail
                refine name_world ?_
                intro w8 hw8
                replace x4 : Bx w8 (W.heap.size + 1) 26 #[.int .i64 0, .int .i64 0, .int .i64 0, .int .i64 0, .slice none 0 0] := by rw [hw8]; exact x4.alloc _
                replace B : Below W.heap.size W w8 := by rw [hw8]; exact bnew B
                clear hw8 hlk x11 x7 q7 f7 l7 q11 f11 l11 hsz
                obtain ⟨q4, f4, l4⟩ := x4.all
                go_wp2_with fail
                refine bodyPost_ret (v := .tuple #[.agg #[.int .i64 0, .int .i64 0, .int .i64 0, .int .i64 0, .slice none 0 0], .int .i64 7]) (by simp [results, Try.results7, go_sem, q4]) rfl (JoinR.bad HE.out (by decide) (bput (by omega) (bput (by omega) (bput (by omega) (bput (by omega) (bput (by omega) (B)))))))

            · obtain rfl : i = fw := by omega
              have Hct2 : Hid (E.length = cntF L m + (j + 1) * i) := Lib.hid (by rw [Hct.out, Nat.add_mul, Nat.one_mul])
              have Hno3 : Hid (∀ j' i', j' < j + 1 → i' < i → src L m (ptAt (L.getD m default) j' i') = none) := Lib.hid fun j' i' h1 h2 => by
                rcases Nat.lt_or_eq_of_le (Nat.le_of_lt_succ h1) with h | rfl
                · exact Hno.out j' i' h h2
                · exact Hno2.out i' h2
              have Hfs2 : Hid (MapS E (srcAt L m (j + 1) 0)) := Lib.hid (Hfs.out.congr fun p => by rw [srcAt_row _ _ _ _ _ Hw.out])
              clear Hno Hno2 Hfs Hct
              go_wp2_with fail
              go_roundw
              case rel => exact ⟨j + 1, E, by omega, by go_num, Hct2, Hno3, Hfs2, st, x11⟩
              case measure => simp [intOf]; omega
        · obtain rfl : j = fh := by omega
          have Hd : Hid (dupB L m = false) := Lib.hid (dup_not fun j' i' h1 h2 => Hno.out j' i' (by rw [Hh.out] at h1; omega) (by rw [Hw.out] at h2; omega))
          have Hz2 : Hid (joinTo x y rw rh L (m + 1) = 0) := Lib.hid (HJ2.out (by rw [if_neg (by rw [Hd.out]; simp)]))
          have Hct2 : Hid (E.length = cntF L (m + 1)) := Lib.hid (by rw [cntF_succ L m fw j Hw.out Hh.out]; exact Hct.out)
          have Hfs2 : Hid (MapS E (src L (m + 1))) := Lib.hid (Hfs.out.congr fun p => by rw [srcAt_end _ _ _ _ (by rw [← Hn.out]; exact hlt) Hh.out])
          clear Hno Hd Hct Hfs HJ2
          go_wp2_with fail
          go_roundw
          case rel => exact ⟨m + 1, E, by omega, by go_num, Hz2, Hfs2, Hct2, st⟩
          case measure => simp [intOf]; omega

    · obtain rfl : m = n := by omega
      have HE : Hid (joinErr x y rw rh L = if E.length < M then 10 else 0) := Lib.hid (by
        rw [joinErr_end Hr.out (by rw [← Hn.out]; exact Hz.out), ← Hn.out, ← Hct.out, HM.out.1]
        by_cases h : E.length < M
        · rw [if_pos h, if_pos (by omega)]
        · rw [if_neg h, if_neg (by omega)])
      clear Hz Hct
      obtain ⟨x2, x4, x7, xm, B⟩ := st
      have hlen := run_mapLen_pt xm
      generalize E.length = el at *
      obtain ⟨q2, f2, l2⟩ := x2.all
      obtain ⟨q4, f4, l4⟩ := x4.all
      obtain ⟨q7, f7, l7⟩ := x7.all
      by_cases hcM : el < M
      · have hcM' : (el : Int) < (M : Int) := by omega
        have H10 : Hid (joinErr x y rw rh L = 10) := Lib.hid (by rw [HE.out, if_pos hcM])
        clear HE xm Hfs
        go_wp2_with fail
        refine bodyPost_ret (v := .tuple #[.agg #[.int .i64 0, .int .i64 0, .int .i64 0, .int .i64 0, .slice none 0 0], .int .i64 10]) (by simp [results, Try.results7, go_sem, q4]) rfl (JoinR.bad H10.out (by decide) (bput (by omega) (bput (by omega) (bput (by omega) (bput (by omega) (bput (by omega) (B)))))))
      · have hcM' : ¬ (el : Int) < (M : Int) := by omega
        have H0 : Hid (joinErr x y rw rh L = 0) := Lib.hid (by rw [HE.out, if_neg hcM])
        have HMk := Lib.hid (join_makes (x := x) (y := y) (w := rw) (h := rh) xm x7 Hfs.out)
        clear HE xm Hfs
        go_wp2_with fail
        refine (ref_Made x y rw rh M _ _ _ _ HM.out.2.symm (by omega) (by omega) (by omega) (by omega) (by omega) (by omega) (by omega) (by omega) (by omega) HMk.out).mono ?_
        rintro e w8 ⟨g, gc, rfl, hgc, hg, hrd, hb⟩
        have XR := Lib.hid hrd
        have hsz := B.size
        have l4' := x4.lt
        replace x4 := x4.keep hb
        replace B := bcall B hb
        clear hb hrd hlen q2 f2 l2 q4 f4 l4 q7 f7 l7 x2 x7 HMk
        obtain ⟨q4, f4, l4⟩ := x4.all
        go_wp2_with fail
        refine bodyPost_ret (v := .tuple #[.agg #[.int .i64 x, .int .i64 y, .int .i64 (rw : Int), .int .i64 (rh : Int), .slice (some ⟨g, 0, none⟩) (4 * M) gc], .int .i64 0]) (by simp [results, Try.results7, go_sem, q4]) rfl (JoinR.good H0.out (by rw [HM.out.2]) hgc (by omega) ?_ (bput (by omega) (bput (by omega) (bput (by omega) (bput (by omega) (bput (by omega) (B)))))))
        have h := XR.out
        rw [Hn.out] at h
        exact Only.rd (b := W.heap.size + 1) ((((((Only.refl _ _).set _ _).set _ _).set _ _).set _ _).set _ _) (by omega) h

end Go.Proofs.Ytccbhghpghijiaa
