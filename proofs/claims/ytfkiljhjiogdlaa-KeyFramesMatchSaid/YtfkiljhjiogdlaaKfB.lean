/- Key frames, plain; key.CheckFrames. (printed by gen_kfb.py) -/
import Derived.Test.YtfkiljhjiogdlaaWnD
import Derived.BigQuiet
namespace Go.Proofs.Ytfkiljhjiogdlaa
open Go.RowKit

/-- A key frame. -/
structure Kf where
  fr : Int
  ease : Int
  kind : Int
  X : Nat
  Y : Nat
  Wd : Nat
  H : Nat
  S : Nat
  pa : Option Addr
  pc : Nat
  ps : List (Int × Int)
  out : Bool
instance : Inhabited Kf := ⟨⟨0, 0, 0, 0, 0, 0, 0, 0, none, 0, [], false⟩⟩
def Kf.pv (k : Kf) : Value := .slice k.pa k.ps.length k.pc
def Kf.win (k : Kf) : Int := winErr k.kind k.X k.Y k.Wd k.H k.S k.ps
def kfErr (fr ease we : Int) (k : Nat) (pf : Int) (cf : Bool) : Int :=
  if fr < 0 ∨ 16777216 < fr then 3 else if ease < 1 ∨ 3 < ease then 1 else if we ≠ 0 then we else if 0 < k ∧ fr ≤ pf then 8 else if cf = true then 12 else 0
def kfCf (x z : Kf) : Bool := decide (x.kind ≠ z.kind) || (decide (x.out ≠ z.out) || decide (x.ps.length ≠ z.ps.length))
def kfAt (ks : List Kf) (k : Nat) : Int := kfErr (ks.getD k default).fr (ks.getD k default).ease (ks.getD k default).win k (ks.getD (k - 1) default).fr (kfCf (ks.getD k default) (ks.getD 0 default))
def kfsTo (ks : List Kf) : Nat → Int
  | 0 => 0
  | k + 1 => if kfsTo ks k ≠ 0 then kfsTo ks k else kfAt ks k
def kfsErr (ks : List Kf) : Int := if ks.length = 0 then 10 else if 100 < ks.length then 4 else kfsTo ks ks.length
theorem kfsTo_stay (es : List Kf) (k : Nat) (e : Int) (he : e ≠ 0) (h : kfsTo es k = e) : ∀ m, k ≤ m → kfsTo es m = e := by
  intro m hm
  induction m with
  | zero => rw [show 0 = k by omega]; exact h
  | succ m ih =>
    rcases Nat.lt_or_ge m k with hk | hk
    · rw [show m + 1 = k by omega]; exact h
    · rw [kfsTo, ih hk, if_pos he]
theorem kfsTo_zero (es : List Kf) (k : Nat) (h : kfsTo es k = 0) : ∀ j, j < k → kfAt es j = 0 := by
  induction k with
  | zero => intro j hj; omega
  | succ k ih =>
    intro j hj
    rw [kfsTo] at h
    by_cases h0 : kfsTo es k = 0
    · rw [if_neg (by simpa using h0)] at h
      rcases Nat.lt_or_eq_of_le (Nat.le_of_lt_succ hj) with h2 | rfl
      · exact ih h0 j h2
      · exact h
    · rw [if_pos h0] at h; exact absurd h h0
/-- The key frame k lies from cell i of block b on. -/
def KfAt (w : World) (b i : Nat) (k : Kf) : Prop :=
  w.cell? ⟨b, i, none⟩ = some (.int .i64 k.fr) ∧ w.cell? ⟨b, i + 1, none⟩ = some (.int .i64 k.ease) ∧ w.cell? ⟨b, i + 2, none⟩ = some (.int .i64 k.kind) ∧
  w.cell? ⟨b, i + 3, none⟩ = some (.float .f32 k.X) ∧ w.cell? ⟨b, i + 4, none⟩ = some (.float .f32 k.Y) ∧ w.cell? ⟨b, i + 5, none⟩ = some (.float .f32 k.Wd) ∧
  w.cell? ⟨b, i + 6, none⟩ = some (.float .f32 k.H) ∧ w.cell? ⟨b, i + 7, none⟩ = some (.float .f32 k.S) ∧ w.cell? ⟨b, i + 8, none⟩ = some k.pv ∧ w.cell? ⟨b, i + 9, none⟩ = some (.bool k.out)
theorem KfAt.keep {w w' : World} {B b i : Nat} {e : Kf} (h : KfAt w b i e) (hb : Below B w w') (hlt : b < B) : KfAt w' b i e := by
  obtain ⟨q0, q1, q2, q3, q4, q5, q6, q7, q8, q9⟩ := h
  exact ⟨by rw [hb.cell (p := ⟨b, _, none⟩) hlt]; exact q0, by rw [hb.cell (p := ⟨b, _, none⟩) hlt]; exact q1, by rw [hb.cell (p := ⟨b, _, none⟩) hlt]; exact q2, by rw [hb.cell (p := ⟨b, _, none⟩) hlt]; exact q3, by rw [hb.cell (p := ⟨b, _, none⟩) hlt]; exact q4, by rw [hb.cell (p := ⟨b, _, none⟩) hlt]; exact q5, by rw [hb.cell (p := ⟨b, _, none⟩) hlt]; exact q6, by rw [hb.cell (p := ⟨b, _, none⟩) hlt]; exact q7, by rw [hb.cell (p := ⟨b, _, none⟩) hlt]; exact q8, by rw [hb.cell (p := ⟨b, _, none⟩) hlt]; exact q9⟩
/-- v reads as the key frames ks. -/
def SlK (w : World) (v : Value) (ks : List Kf) : Prop :=
  ∃ a c, v = .slice a ks.length c ∧ ks.length ≤ maxLen ∧ (ks = [] ∨ ∃ b o, a = some ⟨b, o, none⟩ ∧ b < w.heap.size ∧ ∀ k, k < ks.length → KfAt w b (o + k * 10) (ks.getD k default)) ∧ ∀ k, k < ks.length → SlP w (ks.getD k default).pv (ks.getD k default).ps
theorem SlK.keep {w w' : World} {v : Value} {ks : List Kf} (h : SlK w v ks) (hb : Below w.heap.size w w') : SlK w' v ks := by
  obtain ⟨a, c, h1, h2, h3, h4⟩ := h
  refine ⟨a, c, h1, h2, ?_, fun k hk => (h4 k hk).keep hb⟩
  rcases h3 with h3 | ⟨b, o, h5, h6, h7⟩
  · exact .inl h3
  · exact .inr ⟨b, o, h5, Nat.lt_of_lt_of_le h6 hb.size, fun k hk => (h7 k hk).keep hb h6⟩
theorem kret {a b : Int} (h : a = b) : Ending.returned (.int .i64 a) = .returned (.int .i64 b) := by rw [h]

set_option maxRecDepth 100000 in
set_option maxHeartbeats 8000000 in
theorem key_CheckFrames (v : Value) (ks : List Kf) (W : World) (hs : SlK W v ks) :
    Calls Try.prog 12 #[v] W fun e w' => e = .returned (.int .i64 (kfsErr ks)) ∧ Below W.heap.size W w' := by
  obtain ⟨a, c, rfl, hmax, hform, hpts⟩ := hs
  unfold maxLen at hmax
  obtain ⟨n, hn⟩ : ∃ n, n = ks.length := ⟨_, rfl⟩
  rw [← hn] at hmax hpts ⊢
  have Hn := Lib.hid hn
  have Hpts := Lib.hid hpts
  clear hpts
  generalize hres : kfsErr ks = res
  have Hres := Lib.hid hres
  clear hres hn
  by_cases hn0 : n = 0
  · obtain rfl : res = 10 := by rw [← Hres.out]; unfold kfsErr; rw [if_pos (by rw [← Hn.out]; exact hn0)]
    subst hn0
    clear hmax hform Hpts Hres Hn
    go_enter Try.func12, Try.ntmps12
    go_wp2_with fail
    go_ret
    exact ⟨rfl, Below.refl _ _⟩
  have d0 : ((n : Int) == 0) = false := beq_eq_false_iff_ne.2 (by omega)
  by_cases hn1 : 100 < n
  · obtain rfl : res = 4 := by rw [← Hres.out]; unfold kfsErr; rw [if_neg (by rw [← Hn.out]; exact hn0), if_pos (by rw [← Hn.out]; exact hn1)]
    clear hform Hpts Hres Hn
    have d1 : decide (100 < (n : Int)) = true := decide_eq_true (by omega)
    go_enter Try.func12, Try.ntmps12
    go_wp2_with fail
    go_ret
    exact ⟨rfl, Below.refl _ _⟩
  have d1 : decide (100 < (n : Int)) = false := decide_eq_false (by omega)
  have hend : kfsTo ks n = res := by rw [← Hres.out]; unfold kfsErr; rw [if_neg (by rw [← Hn.out]; exact hn0), if_neg (by rw [← Hn.out]; exact hn1), ← Hn.out]
  have Hend := Lib.hid hend
  clear hend Hres
  rcases hform with h0 | ⟨b, o, rfl, hbl, hat⟩
  · exfalso
    have := Hn.out
    rw [h0] at this
    exact hn0 this
  rw [← Hn.out] at hat
  have Hat := Lib.hid hat
  clear hat
  go_enter Try.func12, Try.ntmps12
  go_wp2_with fail
  go_loopw [15] (fun i wr => ∃ k : Nat, k ≤ n ∧ i = .int .i64 (k : Int) ∧ Hid (kfsTo ks k = 0) ∧ Below W.heap.size W wr) (fun i _ => n - (intOf i).toNat)
  case atStart => exact ⟨0, by omega, rfl, Lib.hid rfl, Below.refl _ _⟩
  case round =>
    obtain ⟨k, hk, rfl, hz, B⟩ := hrel
    by_cases hlt : k < n
    · have hki : (k : Int) < (n : Int) := by omega
      have hstep : kfsTo ks (k + 1) = kfAt ks k := by rw [kfsTo, if_neg (by rw [hz.out]; simp)]
      have Hst : Hid (∀ e : Int, e ≠ 0 → kfAt ks k = e → res = e) := Lib.hid fun e he h => by rw [← Hend.out]; exact kfsTo_stay ks (k + 1) e he (hstep.trans h) n (by omega)
      have Hnext : Hid (kfAt ks k = 0 → kfsTo ks (k + 1) = 0) := Lib.hid fun h => hstep.trans h
      clear hstep hz
      obtain ⟨c0, c1, c2, c3, c4, c5, c6, c7, c8, c9⟩ := (Hat.out k hlt).keep B hbl
      obtain ⟨-, -, z2, z3, z4, z5, z6, z7, z8, z9⟩ := (Hat.out 0 (by omega)).keep B hbl
      rw [show o + 0 * 10 = o by omega] at z2 z3 z4 z5 z6 z7 z8 z9
      have hsp := (Hpts.out k hlt).keep B
      have hpf : 0 < k → wr.cell? ⟨b, o + (k - 1) * 10, none⟩ = some (.int .i64 (ks.getD (k - 1) default).fr) := fun h => ((Hat.out (k - 1) (by omega)).keep B hbl).1
      unfold kfAt kfCf Kf.win at Hst Hnext
      unfold Kf.pv at c8 hsp z8
      generalize (ks.getD (k - 1) default).fr = pf at hpf Hst Hnext
      generalize (ks.getD k default).fr = fr at c0 Hst Hnext
      generalize (ks.getD k default).ease = ease at c1 Hst Hnext
      generalize (ks.getD k default).kind = kind at c2 Hst Hnext
      generalize (ks.getD k default).X = X at c3 Hst Hnext
      generalize (ks.getD k default).Y = Y at c4 Hst Hnext
      generalize (ks.getD k default).Wd = Wd at c5 Hst Hnext
      generalize (ks.getD k default).H = H at c6 Hst Hnext
      generalize (ks.getD k default).S = S at c7 Hst Hnext
      generalize (ks.getD k default).pa = pa at c8 hsp
      generalize (ks.getD k default).pc = pc at c8 hsp
      generalize (ks.getD k default).ps = ps at c8 hsp Hst Hnext
      generalize (ks.getD k default).out = out at c9 Hst Hnext
      generalize (ks.getD 0 default).kind = zkind at z2 Hst Hnext
      generalize (ks.getD 0 default).X = zX at z3
      generalize (ks.getD 0 default).Y = zY at z4
      generalize (ks.getD 0 default).Wd = zWd at z5
      generalize (ks.getD 0 default).H = zH at z6
      generalize (ks.getD 0 default).S = zS at z7
      generalize (ks.getD 0 default).pa = zpa at z8
      generalize (ks.getD 0 default).pc = zpc at z8
      generalize (ks.getD 0 default).ps.length = zpn at z8 Hst Hnext
      generalize (ks.getD 0 default).out = zout at z9 Hst Hnext
      obtain ⟨pn, hpn⟩ : ∃ pn, pn = ps.length := ⟨_, rfl⟩
      rw [← hpn] at c8 Hst Hnext hsp
      have Hsp := Lib.hid hsp
      have Hpf := Lib.hid hpf
      clear hsp hpf hpn
      go_upto_region 8 with fail
      refine name_world ?_
      intro w3 hw3
      have x4 : Bx w3 wr.heap.size 44 #[.int .i64 fr, .int .i64 ease, .int .i64 kind, .float .f32 X, .float .f32 Y, .float .f32 Wd, .float .f32 H, .float .f32 S, .slice pa pn pc, .bool out] := by rw [hw3]; exact Bx.new _ _ _
      have hb3 : Below wr.heap.size wr w3 := by rw [hw3]; exact bnew (Below.refl _ wr)
      have lBz := B.size
      have zs : ∀ i u, wr.cell? ⟨b, i, none⟩ = some u → w3.cell? ⟨b, i, none⟩ = some u := fun i u h => (hb3.cell (p := ⟨b, i, none⟩) (by show b < wr.heap.size; omega)).trans h
      replace z2 := zs _ _ z2
      replace z3 := zs _ _ z3
      replace z4 := zs _ _ z4
      replace z5 := zs _ _ z5
      replace z6 := zs _ _ z6
      replace z7 := zs _ _ z7
      replace z8 := zs _ _ z8
      replace z9 := zs _ _ z9
      have hpf := fun h => zs _ _ (Hpf.out h)
      replace Hpf := Lib.hid hpf
      have hsp := Hsp.out.keep hb3
      replace Hsp := Lib.hid hsp
      clear hsp hpf zs
      replace B := bcall B hb3
      clear hw3 c0 c1 c2 c3 c4 c5 c6 c7 c8 c9 hb3 lBz
      obtain ⟨q4, f4, l4⟩ := x4.all
      by_cases r1 : fr < 0
      · have e1 : decide (fr < 0) = true := decide_eq_true r1
        obtain rfl : res = 3 := Hst.out _ (by first | omega | assumption) (by unfold kfErr; rw [if_pos (by omega)])
        clear Hst Hnext
        go_wp2_with fail
        go_ret
        exact ⟨rfl, B⟩
      have e1 : decide (fr < 0) = false := decide_eq_false r1
      by_cases r2 : 16777216 < fr
      · have e2 : decide (16777216 < fr) = true := decide_eq_true r2
        obtain rfl : res = 3 := Hst.out _ (by first | omega | assumption) (by unfold kfErr; rw [if_pos (by omega)])
        clear Hst Hnext
        go_wp2_with fail
        go_ret
        exact ⟨rfl, B⟩
      have e2 : decide (16777216 < fr) = false := decide_eq_false r2
      by_cases r3 : ease < 1
      · have e3 : decide (ease < 1) = true := decide_eq_true r3
        obtain rfl : res = 1 := Hst.out _ (by first | omega | assumption) (by unfold kfErr; rw [if_neg (by omega), if_pos (by omega)])
        clear Hst Hnext
        go_wp2_with fail
        go_ret
        exact ⟨rfl, B⟩
      have e3 : decide (ease < 1) = false := decide_eq_false r3
      by_cases r4 : 3 < ease
      · have e4 : decide (3 < ease) = true := decide_eq_true r4
        obtain rfl : res = 1 := Hst.out _ (by first | omega | assumption) (by unfold kfErr; rw [if_neg (by omega), if_pos (by omega)])
        clear Hst Hnext
        go_wp2_with fail
        go_ret
        exact ⟨rfl, B⟩
      have e4 : decide (3 < ease) = false := decide_eq_false r4
      go_wp2_with fail
      refine (key_CheckWindow kind X Y Wd H S (.slice pa pn pc) ps out _ Hsp.out).mono ?_
      rintro e w5 ⟨rfl, hb⟩
      have lBz := B.size
      have zs : ∀ i u, w3.cell? ⟨b, i, none⟩ = some u → w5.cell? ⟨b, i, none⟩ = some u := fun i u h => (hb.cell (p := ⟨b, i, none⟩) (by show b < w3.heap.size; omega)).trans h
      replace z2 := zs _ _ z2
      replace z3 := zs _ _ z3
      replace z4 := zs _ _ z4
      replace z5 := zs _ _ z5
      replace z6 := zs _ _ z6
      replace z7 := zs _ _ z7
      replace z8 := zs _ _ z8
      replace z9 := zs _ _ z9
      have hpf := fun h => zs _ _ (Hpf.out h)
      replace x4 := x4.keep hb
      replace B := bcall B hb
      clear zs lBz hb q4 f4 l4 Hsp Hpf
      obtain ⟨q4, f4, l4⟩ := x4.all
      generalize winErr kind X Y Wd H S ps = we at Hst Hnext ⊢
      by_cases hwe : we = 0
      rotate_left
      · have ewe : (we != 0) = true := by simpa using hwe
        obtain rfl : res = we := Hst.out _ (by first | omega | assumption) (by unfold kfErr; rw [if_neg (by omega), if_neg (by omega), if_pos hwe])
        clear Hst Hnext
        go_wp2_with fail
        go_ret
        exact ⟨rfl, B⟩
      subst hwe
      go_wp2_with fail
      by_cases hk0 : k = 0
      · subst hk0
        clear hpf
        go_quiet (fail)
        go_upto_region 17 with fail
        refine name_world ?_
        intro w6 hw6
        have zs : ∀ i u, w5.cell? ⟨b, i, none⟩ = some u → w6.cell? ⟨b, i, none⟩ = some u := fun i u h => by rw [hw6]; exact h
        replace z2 := zs _ _ z2
        replace z3 := zs _ _ z3
        replace z4 := zs _ _ z4
        replace z5 := zs _ _ z5
        replace z6 := zs _ _ z6
        replace z7 := zs _ _ z7
        replace z8 := zs _ _ z8
        replace z9 := zs _ _ z9
        have y4 := bx_eqd2 hw6 x4
        have B6 := b_eqd2 hw6 B
        clear hw6 zs x4 q4 f4 l4
        go_upto_region 18 with fail
        refine name_world ?_
        intro w7 hw7
        have y6 : Bx w7 w6.heap.size 25 #[.int .i64 zkind, .float .f32 zX, .float .f32 zY, .float .f32 zWd, .float .f32 zH, .float .f32 zS, .slice zpa zpn zpc, .bool zout] := by rw [hw7]; exact Bx.new _ _ _
        have hb7 : Below w6.heap.size w6 w7 := by rw [hw7]; exact bnew (Below.refl _ w6)
        replace y4 := y4.keep hb7
        replace B6 := bcall B6 hb7
        clear hw7 hb7 z2 z3 z4 z5 z6 z7 z8 z9 B
        have B := B6
        clear B6
        obtain ⟨q4, f4, l4⟩ := y4.all
        obtain ⟨q6, f6, l6⟩ := y6.all
        by_cases u1 : kind = zkind
        rotate_left
        · have hu1 : (kind != zkind) = true := by simpa using u1
          obtain rfl : res = 12 := Hst.out _ (by omega) (by unfold kfErr; rw [if_neg (by omega), if_neg (by omega), if_neg (by simp), if_neg (by omega), if_pos (by simp [*])])
          clear Hst Hnext
          go_wp2_with fail
          go_ret
          exact ⟨rfl, B⟩
        subst u1
        cases out
        all_goals cases zout
        rotate_left
        · obtain rfl : res = 12 := Hst.out _ (by omega) (by unfold kfErr; rw [if_neg (by omega), if_neg (by omega), if_neg (by simp), if_neg (by omega), if_pos (by simp [*])])
          clear Hst Hnext
          go_wp2_with fail
          go_ret
          exact ⟨rfl, B⟩
        · obtain rfl : res = 12 := Hst.out _ (by omega) (by unfold kfErr; rw [if_neg (by omega), if_neg (by omega), if_neg (by simp), if_neg (by omega), if_pos (by simp [*])])
          clear Hst Hnext
          go_wp2_with fail
          go_ret
          exact ⟨rfl, B⟩
        rotate_right
        all_goals
          by_cases u3 : pn = zpn
          · subst u3
            go_wp2_with fail
            go_roundw
            case rel => exact ⟨0 + 1, by omega, by go_num, Lib.hid (Hnext.out (by unfold kfErr; rw [if_neg (by omega), if_neg (by omega), if_neg (by simp), if_neg (by omega), if_neg (by simp)])), B⟩
            case measure => simp [intOf]; omega
          · have hu3 : ((pn : Int) != (zpn : Int)) = true := by simp; omega
            have hu4 : (pn != zpn) = true := by simpa using u3
            obtain rfl : res = 12 := Hst.out _ (by omega) (by unfold kfErr; rw [if_neg (by omega), if_neg (by omega), if_neg (by simp), if_neg (by omega), if_pos (by simp [*])])
            clear Hst Hnext
            go_wp2_with fail
            go_ret
            exact ⟨rfl, B⟩
      · obtain ⟨j, hj⟩ : ∃ j, k = j + 1 := ⟨k - 1, by omega⟩
        have hpf := hpf (by omega)
        rw [show k - 1 = j by omega] at hpf
        have dk : decide (0 < (k : Int)) = true := decide_eq_true (by omega)
        have dk2 : decide (0 < k) = true := decide_eq_true (by omega)
        have hkj : (k : Int) - 1 = (j : Int) := by omega
        have hjn : (j : Int) < (n : Int) := by omega
        have Hj := Lib.hid hj
        clear hj
        by_cases r5 : fr ≤ pf
        · have e5 : decide (fr ≤ pf) = true := decide_eq_true r5
          obtain rfl : res = 8 := Hst.out _ (by omega) (by unfold kfErr; rw [if_neg (by omega), if_neg (by omega), if_neg (by simp), if_pos (by omega)])
          clear Hst Hnext
          go_quiet (fail)
          go_wp2_with fail
          go_ret
          exact ⟨rfl, below_drewN B _⟩
        · have e5 : decide (fr ≤ pf) = false := decide_eq_false r5
          go_quiet (fail)
          go_upto_region 17 with fail
          refine name_world ?_
          intro w6 hw6
          have zs : ∀ i u, w5.cell? ⟨b, i, none⟩ = some u → w6.cell? ⟨b, i, none⟩ = some u := fun i u h => by rw [hw6]; exact h
          replace z2 := zs _ _ z2
          replace z3 := zs _ _ z3
          replace z4 := zs _ _ z4
          replace z5 := zs _ _ z5
          replace z6 := zs _ _ z6
          replace z7 := zs _ _ z7
          replace z8 := zs _ _ z8
          replace z9 := zs _ _ z9
          have y4 := bx_eqd2 hw6 x4
          have B6 := b_eqd2 hw6 B
          clear hw6 zs x4 q4 f4 l4
          go_upto_region 18 with fail
          refine name_world ?_
          intro w7 hw7
          have y6 : Bx w7 w6.heap.size 25 #[.int .i64 zkind, .float .f32 zX, .float .f32 zY, .float .f32 zWd, .float .f32 zH, .float .f32 zS, .slice zpa zpn zpc, .bool zout] := by rw [hw7]; exact Bx.new _ _ _
          have hb7 : Below w6.heap.size w6 w7 := by rw [hw7]; exact bnew (Below.refl _ w6)
          replace y4 := y4.keep hb7
          replace B6 := bcall B6 hb7
          clear hw7 hb7 z2 z3 z4 z5 z6 z7 z8 z9 B
          have B := B6
          clear B6
          obtain ⟨q4, f4, l4⟩ := y4.all
          obtain ⟨q6, f6, l6⟩ := y6.all
          by_cases u1 : kind = zkind
          rotate_left
          · have hu1 : (kind != zkind) = true := by simpa using u1
            obtain rfl : res = 12 := Hst.out _ (by omega) (by unfold kfErr; rw [if_neg (by omega), if_neg (by omega), if_neg (by simp), if_neg (by omega), if_pos (by simp [*])])
            clear Hst Hnext
            go_wp2_with fail
            go_ret
            exact ⟨rfl, B⟩
          subst u1
          cases out
          all_goals cases zout
          rotate_left
          · obtain rfl : res = 12 := Hst.out _ (by omega) (by unfold kfErr; rw [if_neg (by omega), if_neg (by omega), if_neg (by simp), if_neg (by omega), if_pos (by simp [*])])
            clear Hst Hnext
            go_wp2_with fail
            go_ret
            exact ⟨rfl, B⟩
          · obtain rfl : res = 12 := Hst.out _ (by omega) (by unfold kfErr; rw [if_neg (by omega), if_neg (by omega), if_neg (by simp), if_neg (by omega), if_pos (by simp [*])])
            clear Hst Hnext
            go_wp2_with fail
            go_ret
            exact ⟨rfl, B⟩
          rotate_right
          all_goals
            by_cases u3 : pn = zpn
            · subst u3
              go_wp2_with fail
              go_roundw
              case rel => exact ⟨k + 1, by omega, by go_num, Lib.hid (Hnext.out (by unfold kfErr; rw [if_neg (by omega), if_neg (by omega), if_neg (by simp), if_neg (by omega), if_neg (by simp)])), B⟩
              case measure => simp [intOf]; omega
            · have hu3 : ((pn : Int) != (zpn : Int)) = true := by simp; omega
              have hu4 : (pn != zpn) = true := by simpa using u3
              obtain rfl : res = 12 := Hst.out _ (by omega) (by unfold kfErr; rw [if_neg (by omega), if_neg (by omega), if_neg (by simp), if_neg (by omega), if_pos (by simp [*])])
              clear Hst Hnext
              go_wp2_with fail
              go_ret
              exact ⟨rfl, B⟩
    · obtain rfl : k = n := by omega
      obtain rfl : res = 0 := by rw [← Hend.out]; exact hz.out
      go_wp2_with fail
      go_ret
      exact ⟨rfl, B⟩
end Go.Proofs.Ytfkiljhjiogdlaa
