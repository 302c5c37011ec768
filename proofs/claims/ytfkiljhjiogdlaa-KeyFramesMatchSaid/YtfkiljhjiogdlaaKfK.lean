/- dyeref1.BetweenFrames. (printed by gen_kfk.py) -/
import Derived.Test.YtfkiljhjiogdlaaKfJ
import Derived.Test.YtfkiljhjiogdlaaKfE
import Derived.Test.YtfkiljhjiogdlaaKfL
import Derived.Test.YtfkiljhjiogdlaaLate
import Derived.Test.YtfkiljhjiogdlaaGrd
import Derived.Deep.DeepCutAuto
import Derived.Deep.CutBlock
namespace Go.Proofs.Ytfkiljhjiogdlaa
open Go.RowKit

theorem two_new {W w wx : World} {p3 p4 : Nat} {T3 T4 T : TypeId} {c3 c4 ca cb : Array Value} {s6 s7 : Value} (_h4 : p4 < w.heap.size) (B : Below W.heap.size W w) (x3 : Bx w p3 T3 c3) (x4 : Bx w p4 T4 c4) {k : Nat} (hk : k ≤ w.heap.size)
    (h : (s6 = .pointer (some ⟨w.heap.size, 0, none⟩) ∧ s7 = .pointer (some ⟨w.heap.size + 1, 0, none⟩) ∧ wx = ((w.alloc (.cells ca T)).alloc (.cells cb T)).drew) ∨ (s6 = .pointer (some ⟨w.heap.size + 1, 0, none⟩) ∧ s7 = .pointer (some ⟨w.heap.size, 0, none⟩) ∧ wx = ((w.alloc (.cells cb T)).alloc (.cells ca T)).drew)) :
    ∃ p6 p7, s6 = .pointer (some ⟨p6, 0, none⟩) ∧ s7 = .pointer (some ⟨p7, 0, none⟩) ∧ p6 ≠ p7 ∧ k ≤ p6 ∧ k ≤ p7 ∧ Bx wx p6 T ca ∧ Bx wx p7 T cb ∧ Bx wx p3 T3 c3 ∧ Bx wx p4 T4 c4 ∧ Below W.heap.size W wx := by
  have hd : ∀ (w : World), Below w.heap.size w w.drew := fun w => below_drewN (Below.refl _ w) 1
  rcases h with ⟨rfl, rfl, rfl⟩ | ⟨rfl, rfl, rfl⟩
  · exact ⟨_, _, rfl, rfl, by omega, by omega, by omega, ((Bx.new _ _ _).alloc _).keep (hd _), (Bx.at _ (by simp)).keep (hd _), ((x3.alloc _).alloc _).keep (hd _), ((x4.alloc _).alloc _).keep (hd _), bcall (bnew (bnew B)) (hd _)⟩
  · exact ⟨_, _, rfl, rfl, by omega, by omega, by omega, (Bx.at _ (by simp)).keep (hd _), ((Bx.new _ _ _).alloc _).keep (hd _), ((x3.alloc _).alloc _).keep (hd _), ((x4.alloc _).alloc _).keep (hd _), bcall (bnew (bnew B)) (hd _)⟩
set_option maxRecDepth 100000 in
set_option maxHeartbeats 16000000 in
theorem ref_Between (v : Value) (ks : List Kf) (f : Int) (W : World) (hs : SlK W v ks) (hok : kfsErr ks = 0) :
    Calls Try.prog 14 #[v, .int .i64 f] W fun e w' => ∃ i, IsIdx ks f i ∧ ∃ pa pc, e = .returned ((winOf ks f i).val pa pc) ∧ SlP w' (.slice pa (winOf ks f i).ps.length pc) (winOf ks f i).ps ∧ Below W.heap.size W w' := by
  have HS := Lib.hid hs
  obtain ⟨hn0, hn1, hall⟩ := kfs_ok hok
  have hix : Hid (∀ (p : Nat) w, SlK w v ks → Bx w p 3 #[.int .i64 f] → Calls Try.prog 38 #[v, .func (.func 39) #[] #[.pointer (some ⟨p, 0, none⟩)]] w fun e w' => ∃ i, IsIdx ks f i ∧ e = .returned (.int .i64 (if i < ks.length then (i : Int) else -1)) ∧ Below w.heap.size w w') := Lib.hid fun p w h hp => index_behind v ks f w h hn1 hp (fun k hk h0 => (hall k hk).2.2.2.2.2.1 h0)
  obtain ⟨a, c, rfl, -, hform, hpts⟩ := hs
  obtain ⟨n, hn⟩ : ∃ n, n = ks.length := ⟨_, rfl⟩
  rw [← hn] at HS hix hn0 hn1 hall hpts ⊢
  have Hn := Lib.hid hn
  have Hok := Lib.hid hall
  have Hpts := Lib.hid hpts
  rcases hform with h0 | ⟨b, o, rfl, hbl, hat⟩
  · exfalso; rw [hn, h0] at hn0; simp at hn0
  rw [← hn] at hat
  have Hat := Lib.hid hat
  clear hat hpts hall hn hok
  go_enter Try.func14, Try.ntmps14
  go_upto_region 1 with fail
  refine name_world ?_
  intro w0 hw0
  have x3 : Bx w0 W.heap.size 3 #[.int .i64 f] := by rw [hw0]; exact (Bx.new _ _ _).alloc _
  have x4 : Bx w0 (W.heap.size + 1) 25 #[.int .i64 0, .float .f32 0, .float .f32 0, .float .f32 0, .float .f32 0, .float .f32 0, .slice none 0 0, .bool false] := by rw [hw0]; exact Bx.at _ (by simp)
  have B : Below W.heap.size W w0 := by rw [hw0]; exact bnew (bnew (Below.refl _ W))
  clear hw0
  go_wp2_with fail
  refine (hix.out _ _ (HS.out.keep B) x3).mono ?_
  rintro e w1 ⟨i, hidx, rfl, hb⟩
  replace x3 := x3.keep hb
  replace x4 := x4.keep hb
  replace B := bcall B hb
  have Hidx := Lib.hid hidx
  have hil : i ≤ n := by rw [Hn.out]; exact hidx.1
  clear hb hix HS hidx
  by_cases hin : i < n
  · rw [if_pos hin]
    by_cases hi0 : i = 0
    · have Hwin : Hid (winOf ks f i = (ks.getD 0 default).wi) := Lib.hid (by unfold winOf; rw [if_pos hi0])
      subst hi0
      obtain ⟨a0, a1, a2, a3, a4, a5, a6, a7, a8, a9⟩ := (Hat.out (0) (by omega)).keep B hbl
      obtain ⟨ab0, ab1, ae0, ae1, aw, ao, ak, au, al⟩ := Hok.out (0) (by omega)
      have asp := Hpts.out (0) (by omega)
      unfold Kf.pv at a8 asp
      unfold Kf.win at aw
      rw [show o + 0 * 10 = o by omega] at a0 a1 a2 a3 a4 a5 a6 a7 a8 a9
      have al2 := (win_smb aw).2.2.2.2.2.1
      clear aw al ao ak au ab0 ab1 ae0 ae1 al2
      unfold Kf.wi at Hwin
      generalize (ks.getD 0 default).fr = afr at *
      generalize (ks.getD 0 default).ease = aease at *
      generalize (ks.getD 0 default).kind = akind at *
      generalize (ks.getD 0 default).X = aX at *
      generalize (ks.getD 0 default).Y = aY at *
      generalize (ks.getD 0 default).Wd = aWd at *
      generalize (ks.getD 0 default).H = aH at *
      generalize (ks.getD 0 default).S = aS at *
      generalize (ks.getD 0 default).pa = apa at *
      generalize (ks.getD 0 default).pc = apc at *
      generalize (ks.getD 0 default).ps = aps at *
      generalize (ks.getD 0 default).out = aout at *
      obtain ⟨apn, hapn⟩ : ∃ z, z = aps.length := ⟨_, rfl⟩
      rw [← hapn] at a8 asp
      have Hasp := Lib.hid asp
      have Hapn := Lib.hid hapn
      clear asp hapn
      obtain ⟨q4, f4, l4⟩ := x4.all
      go_wp2_with fail
      refine bodyPost_ret (v := .agg #[.int .i64 akind, .float .f32 aX, .float .f32 aY, .float .f32 aWd, .float .f32 aH, .float .f32 aS, .slice apa apn apc, .bool aout]) (by simp [results, Try.results14, go_sem, q4]) rfl ⟨_, Hidx.out, apa, apc, by rw [Hwin.out, Hapn.out]; rfl, ?_, bput (by omega) (bput (by omega) (bput (by omega) (bput (by omega) (bput (by omega) (bput (by omega) (bput (by omega) (bput (by omega) (B))))))))⟩
      rw [Hwin.out]
      show SlP _ (.slice apa aps.length apc) aps
      rw [← Hapn.out]
      exact Hasp.out.keep (bput (by omega) (bput (by omega) (bput (by omega) (bput (by omega) (bput (by omega) (bput (by omega) (bput (by omega) (bput (by omega) (B)))))))))
    · obtain ⟨j, hj⟩ : ∃ j, i = j + 1 := ⟨i - 1, by omega⟩
      have hji : (i : Int) - 1 = (j : Int) := by omega
      have hjn : (j : Int) < (n : Int) := by omega
      have hki : (i : Int) < (n : Int) := by omega
      have hd0 : ((i : Int) == 0) = false := beq_eq_false_iff_ne.2 (by omega)
      have hd1 : decide ((i : Int) < 0) = false := decide_eq_false (by omega)
      have Hj := Lib.hid hj
      clear hj
      by_cases hfe : (ks.getD j default).fr = f
      · have Hwin : Hid (winOf ks f i = (ks.getD j default).wi) := Lib.hid (by rw [winOf_one hi0 (.inr (by rw [show i - 1 = j by have := Hj.out; omega]; exact hfe)), show i - 1 = j by have := Hj.out; omega])
        obtain ⟨a0, a1, a2, a3, a4, a5, a6, a7, a8, a9⟩ := (Hat.out (j) (by omega)).keep B hbl
        obtain ⟨ab0, ab1, ae0, ae1, aw, ao, ak, au, al⟩ := Hok.out (j) (by omega)
        have asp := Hpts.out (j) (by omega)
        unfold Kf.pv at a8 asp
        unfold Kf.win at aw
        have al2 := (win_smb aw).2.2.2.2.2.1
        clear aw al ao ak au ab0 ab1 ae0 ae1 al2
        unfold Kf.wi at Hwin
        generalize (ks.getD j default).fr = afr at *
        generalize (ks.getD j default).ease = aease at *
        generalize (ks.getD j default).kind = akind at *
        generalize (ks.getD j default).X = aX at *
        generalize (ks.getD j default).Y = aY at *
        generalize (ks.getD j default).Wd = aWd at *
        generalize (ks.getD j default).H = aH at *
        generalize (ks.getD j default).S = aS at *
        generalize (ks.getD j default).pa = apa at *
        generalize (ks.getD j default).pc = apc at *
        generalize (ks.getD j default).ps = aps at *
        generalize (ks.getD j default).out = aout at *
        obtain ⟨apn, hapn⟩ : ∃ z, z = aps.length := ⟨_, rfl⟩
        rw [← hapn] at a8 asp
        have Hasp := Lib.hid asp
        have Hapn := Lib.hid hapn
        clear asp hapn
        subst hfe
        have eff : (afr == afr) = true := beq_self_eq_true _
        obtain ⟨q3, f3, l3⟩ := x3.all
        obtain ⟨q4, f4, l4⟩ := x4.all
        go_wp2_with fail
        go_quiet (fail)
        go_wp2_with fail
        refine bodyPost_ret (v := .agg #[.int .i64 akind, .float .f32 aX, .float .f32 aY, .float .f32 aWd, .float .f32 aH, .float .f32 aS, .slice apa apn apc, .bool aout]) (by simp [results, Try.results14, go_sem, q4]) rfl ⟨_, Hidx.out, apa, apc, by rw [Hwin.out, Hapn.out]; rfl, ?_, bput (by omega) (bput (by omega) (bput (by omega) (bput (by omega) (bput (by omega) (bput (by omega) (bput (by omega) (bput (by omega) ((below_drewN B _)))))))))⟩
        rw [Hwin.out]
        show SlP _ (.slice apa aps.length apc) aps
        rw [← Hapn.out]
        exact Hasp.out.keep (bput (by omega) (bput (by omega) (bput (by omega) (bput (by omega) (bput (by omega) (bput (by omega) (bput (by omega) (bput (by omega) ((below_drewN B _))))))))))
      · have hlj : (ks.getD j default).fr < f := by have := Hidx.out.2.1 j (by have := Hj.out; omega); omega
        have hffr : f < (ks.getD i default).fr := Hidx.out.2.2 (by rw [← Hn.out]; exact hin)
        have Hwin : Hid (winOf ks f i = mixW (ks.getD j default) (ks.getD i default) (shareT (ks.getD j default).ease (ks.getD j default).fr (ks.getD i default).fr f)) := Lib.hid (by rw [winOf_mix hi0 (by have := Hn.out; omega) (by rw [show i - 1 = j by have := Hj.out; omega]; exact hfe), show i - 1 = j by have := Hj.out; omega])
        obtain ⟨a0, a1, a2, a3, a4, a5, a6, a7, a8, a9⟩ := (Hat.out (j) (by omega)).keep B hbl
        obtain ⟨ab0, ab1, ae0, ae1, aw, ao, ak, au, al⟩ := Hok.out (j) (by omega)
        have asp := Hpts.out (j) (by omega)
        unfold Kf.pv at a8 asp
        unfold Kf.win at aw
        have al2 := (win_smb aw).2.2.2.2.2.1
        obtain ⟨b0, b1, b2, b3, b4, b5, b6, b7, b8, b9⟩ := (Hat.out (i) (by omega)).keep B hbl
        obtain ⟨bb0, bb1, be0, be1, bw, bo, bk, bu, bl⟩ := Hok.out (i) (by omega)
        have bsp := Hpts.out (i) (by omega)
        unfold Kf.pv at b8 bsp
        unfold Kf.win at bw
        have bl2 := (win_smb bw).2.2.2.2.2.1
        have hpl : (ks.getD i default).ps.length = (ks.getD j default).ps.length := by rw [bl, al]
        clear al ao ak au bl bo bk bu
        have hw1 := win_smb aw
        have hw2 := win_smb bw
        unfold Kf.wi mixW at Hwin
        have ht := share_num (ease := (ks.getD j default).ease) ab0 hlj hffr bb1
        have hqn := quo_nn' ab0 hlj hffr bb1
        have hdv := fun w => ref_share ab0 hlj hffr bb1 w
        clear aw bw
        generalize (ks.getD j default).fr = afr at *
        generalize (ks.getD j default).ease = aease at *
        generalize (ks.getD j default).kind = akind at *
        generalize (ks.getD j default).X = aX at *
        generalize (ks.getD j default).Y = aY at *
        generalize (ks.getD j default).Wd = aWd at *
        generalize (ks.getD j default).H = aH at *
        generalize (ks.getD j default).S = aS at *
        generalize (ks.getD j default).pa = apa at *
        generalize (ks.getD j default).pc = apc at *
        generalize (ks.getD j default).ps = aps at *
        generalize (ks.getD j default).out = aout at *
        generalize (ks.getD i default).fr = bfr at *
        generalize (ks.getD i default).ease = bease at *
        generalize (ks.getD i default).kind = bkind at *
        generalize (ks.getD i default).X = bX at *
        generalize (ks.getD i default).Y = bY at *
        generalize (ks.getD i default).Wd = bWd at *
        generalize (ks.getD i default).H = bH at *
        generalize (ks.getD i default).S = bS at *
        generalize (ks.getD i default).pa = bpa at *
        generalize (ks.getD i default).pc = bpc at *
        generalize (ks.getD i default).ps = bps at *
        generalize (ks.getD i default).out = bout at *
        obtain ⟨apn, hapn⟩ : ∃ z, z = aps.length := ⟨_, rfl⟩
        rw [← hapn] at a8 asp
        have Hasp := Lib.hid asp
        have Hapn := Lib.hid hapn
        clear asp hapn
        rw [hpl, ← Hapn.out] at b8 bsp
        have Hbsp := Lib.hid bsp
        clear bsp
        obtain ⟨mX1, mY1, mW1, mH1, mS1, -, mP1⟩ := hw1
        obtain ⟨mX2, mY2, mW2, mH2, mS2, -, mP2⟩ := hw2
        have MX := Lib.hid (And.intro mX1 mX2)
        have MY := Lib.hid (And.intro mY1 mY2)
        have MW := Lib.hid (And.intro mW1 mW2)
        have MH := Lib.hid (And.intro mH1 mH2)
        have MS := Lib.hid (And.intro mS1 mS2)
        have MP1 := Lib.hid mP1
        have MP2 := Lib.hid mP2
        have HPL := Lib.hid hpl
        clear mX1 mY1 mW1 mH1 mS1 mP1 mX2 mY2 mW2 mH2 mS2 mP2 hpl bl2
        have hap32 : apn ≤ 32 := by have := Hapn.out; omega
        clear al2
        have hs1 : IntKind.i64.wrap (f - afr) = f - afr := IntWalk.i64_in _ (by omega)
        have hs2 : IntKind.i64.wrap (bfr - afr) = bfr - afr := IntWalk.i64_in _ (by omega)
        have Hdiv := Lib.hid hdv
        have Hqn := Lib.hid hqn
        have HT0 := Lib.hid ht
        clear hdv hqn ht
        have hfe2 : (afr == f) = false := beq_eq_false_iff_ne.2 hfe
        obtain ⟨q3, f3, l3⟩ := x3.all
        go_upto_region 6 with fail
        go_quiet (fail)
        go_upto_region 8 with fail
        refine name_world ?_
        intro w2 hw2
        have hb2 : Below w1.heap.size w1 w2 := by rw [hw2]; exact below_drewN (Below.refl _ _) _
        replace x3 := x3.keep hb2
        replace x4 := x4.keep hb2
        have hB1 : b < w1.heap.size := Nat.lt_of_lt_of_le hbl B.size
        have ze : ∀ i u, w1.cell? ⟨b, i, none⟩ = some u → w2.cell? ⟨b, i, none⟩ = some u := fun i u h => (hb2.cell (p := ⟨b, i, none⟩) hB1).trans h
        replace a0 := ze _ _ a0
        replace a1 := ze _ _ a1
        replace a2 := ze _ _ a2
        replace a3 := ze _ _ a3
        replace a4 := ze _ _ a4
        replace a5 := ze _ _ a5
        replace a6 := ze _ _ a6
        replace a7 := ze _ _ a7
        replace a8 := ze _ _ a8
        replace a9 := ze _ _ a9
        replace b0 := ze _ _ b0
        replace b1 := ze _ _ b1
        replace b2 := ze _ _ b2
        replace b3 := ze _ _ b3
        replace b4 := ze _ _ b4
        replace b5 := ze _ _ b5
        replace b6 := ze _ _ b6
        replace b7 := ze _ _ b7
        replace b8 := ze _ _ b8
        replace b9 := ze _ _ b9
        replace B := bcall B hb2
        clear hb2 hw2 ze q3 f3 l3 hB1 hfe2
        go_cut [6, 7] (fun s6 s7 wx => ∃ p6 p7, s6 = .pointer (some ⟨p6, 0, none⟩) ∧ s7 = .pointer (some ⟨p7, 0, none⟩) ∧ p6 ≠ p7 ∧ W.heap.size + 2 ≤ p6 ∧ W.heap.size + 2 ≤ p7 ∧ Bx wx p6 44 #[.int .i64 afr, .int .i64 aease, .int .i64 akind, .float .f32 aX, .float .f32 aY, .float .f32 aWd, .float .f32 aH, .float .f32 aS, .slice apa apn apc, .bool aout] ∧ Bx wx p7 44 #[.int .i64 bfr, .int .i64 bease, .int .i64 bkind, .float .f32 bX, .float .f32 bY, .float .f32 bWd, .float .f32 bH, .float .f32 bS, .slice bpa apn bpc, .bool bout] ∧ Bx wx W.heap.size 3 #[.int .i64 f] ∧ Bx wx (W.heap.size + 1) 25 #[.int .i64 0, .float .f32 0, .float .f32 0, .float .f32 0, .float .f32 0, .float .f32 0, .slice none 0 0, .bool false] ∧ Below W.heap.size W wx)
        case first =>
          have hsz := x4.lt
          have hbw : b < w2.heap.size := Nat.lt_of_lt_of_le hbl B.size
          go_region
          all_goals
            go_wp2_with fail
            go_meet
            refine two_new hsz B x3 x4 (by omega) ?_
            first
              | exact .inl ⟨rfl, rfl, rfl⟩
              | exact .inr ⟨rfl, rfl, rfl⟩
        case rest =>
          obtain ⟨p6, p7, rfl, rfl, hne, hp6, hp7, x6, x7, x3, x4, B⟩ := hcut
          clear a0 a1 a2 a3 a4 a5 a6 a7 a8 a9 b0 b1 b2 b3 b4 b5 b6 b7 b8 b9 hji hjn hki hd0 hd1 hin hi0 hil
          obtain ⟨t0, ht0⟩ : ∃ t, t = fop .quo (floatOfInt .f32 (f - afr)) (floatOfInt .f32 (bfr - afr)) := ⟨_, rfl⟩
          rw [← ht0] at Hdiv Hqn
          have Ht0 := Lib.hid ht0
          clear ht0
          go_upto_region 9 with fail
          generalize wc = w2 at *
          refine wp_region_grd 13 (fun _ => false) (fun q u w' => if q = 12 then ∃ gn, u = .pointer (some ⟨gn, 0, none⟩) ∧ w2.heap.size ≤ gn ∧ Bx w' gn 22 #[.float .f32 0] else u = [.int .i64 f, .pointer (some ⟨p6, 0, none⟩), .int .i64 afr, .int .i64 (f - afr), .float .f32 (floatOfInt .f32 (f - afr)), .pointer (some ⟨p7, 0, none⟩), .int .i64 bfr, .pointer (some ⟨p6, 0, none⟩), .int .i64 afr, .int .i64 (bfr - afr), .float .f32 (floatOfInt .f32 (bfr - afr)), .float .f32 t0, undef].getD q undef) (fun _ => false) (fun w' => Below w2.heap.size w2 w') (by kernel_rfl) (by kernel_rfl) (fun _ _ _ _ _ h => h)
            (fun _ _ h e => e.trans (h.mono e.size)) (fun t u a' b' hb h => ?_) (Below.refl _ _).drew ?_ ?_ ?_
          · split
            · rename_i h4
              rw [if_pos h4] at h
              obtain ⟨gn, e1, e2, e3⟩ := h
              exact ⟨gn, e1, e2, e3.keep hb⟩
            · rename_i h4
              rw [if_neg h4] at h
              exact h
          · intro t op ht hlt hop
            clear hlt
            rcases (by omega : t = 0 ∨ t = 1 ∨ t = 2 ∨ t = 3 ∨ t = 4 ∨ t = 5 ∨ t = 6 ∨ t = 7 ∨ t = 8 ∨ t = 9 ∨ t = 10 ∨ t = 11 ∨ t = 12) with rfl | rfl | rfl | rfl | rfl | rfl | rfl | rfl | rfl | rfl | rfl | rfl | rfl
            all_goals simp only [List.getElem?_cons_zero, List.getElem?_cons_succ, Option.some.injEq] at hop
            all_goals subst hop
            all_goals intro a wx hE hag hdep
            · refine grd_none rfl ?_
              have e0 := slot_eq (hag 3 rfl)
              have hq := (x3.keep hE).all.1
              exact rel_pure _ rfl rfl (by simp [go_sem, e0, hq])
            · refine grd_none rfl ?_
              have e0 := slot_eq (hag 6 rfl)
              exact rel_pure _ rfl rfl (by simp [go_sem, e0])
            · refine grd_none rfl ?_
              have e0 := slot_eq (hdep ⟨1, .data⟩ (by simp) rfl)
              have hq := (x6.keep hE).all.1
              exact rel_pure _ rfl rfl (by simp [go_sem, e0, hq])
            · refine grd_none rfl ?_
              have e0 := slot_eq (hdep ⟨0, .data⟩ (by simp) rfl)
              have e1 := slot_eq (hdep ⟨2, .data⟩ (by simp) rfl)
              exact rel_pure _ rfl rfl (by simp [go_sem, e0, e1, hs1])
            · refine grd_none rfl ?_
              have e0 := slot_eq (hdep ⟨3, .data⟩ (by simp) rfl)
              refine rel_call (f := 41) (args := #[.int .i64 (f - afr)]) (run_go_call Try.func41 (by kernel_rfl) (by kernel_rfl) _ _ _ _ _ _ _ _ _ _ (by simp [Act.eval, e0])) rfl ?_
              refine (ref_convW (f - afr) _ rfl wx).mono ?_
              rintro e w' ⟨rfl, rfl⟩
              exact ⟨_, rfl, rfl, Below.refl _ _⟩
            · refine grd_none rfl ?_
              have e0 := slot_eq (hag 7 rfl)
              exact rel_pure _ rfl rfl (by simp [go_sem, e0])
            · refine grd_none rfl ?_
              have e0 := slot_eq (hdep ⟨5, .data⟩ (by simp) rfl)
              have hq := (x7.keep hE).all.1
              exact rel_pure _ rfl rfl (by simp [go_sem, e0, hq])
            · refine grd_none rfl ?_
              have e0 := slot_eq (hag 6 rfl)
              exact rel_pure _ rfl rfl (by simp [go_sem, e0])
            · refine grd_none rfl ?_
              have e0 := slot_eq (hdep ⟨7, .data⟩ (by simp) rfl)
              have hq := (x6.keep hE).all.1
              exact rel_pure _ rfl rfl (by simp [go_sem, e0, hq])
            · refine grd_none rfl ?_
              have e0 := slot_eq (hdep ⟨6, .data⟩ (by simp) rfl)
              have e1 := slot_eq (hdep ⟨8, .data⟩ (by simp) rfl)
              exact rel_pure _ rfl rfl (by simp [go_sem, e0, e1, hs2])
            · refine grd_none rfl ?_
              have e0 := slot_eq (hdep ⟨9, .data⟩ (by simp) rfl)
              refine rel_call (f := 41) (args := #[.int .i64 (bfr - afr)]) (run_go_call Try.func41 (by kernel_rfl) (by kernel_rfl) _ _ _ _ _ _ _ _ _ _ (by simp [Act.eval, e0])) rfl ?_
              refine (ref_convW (bfr - afr) _ rfl wx).mono ?_
              rintro e w' ⟨rfl, rfl⟩
              exact ⟨_, rfl, rfl, Below.refl _ _⟩
            · refine grd_none rfl ?_
              have e0 := slot_eq (hdep ⟨4, .data⟩ (by simp) rfl)
              have e1 := slot_eq (hdep ⟨10, .data⟩ (by simp) rfl)
              refine rel_call (f := 40) (args := #[.float .f32 (floatOfInt .f32 (f - afr)), .float .f32 (floatOfInt .f32 (bfr - afr))]) (run_go_call Try.func40 (by kernel_rfl) (by kernel_rfl) _ _ _ _ _ _ _ _ _ _ (by simp [Act.eval, e0, e1])) rfl ?_
              refine (Hdiv.out wx).mono ?_
              rintro e w' ⟨rfl, rfl⟩
              exact ⟨_, rfl, rfl, Below.refl _ _⟩
            · refine grd_none rfl ?_
              exact rel_val (v := .pointer (some ⟨wx.heap.size, 0, none⟩)) (w' := wx.alloc (.cells #[.float .f32 0] 22)) (by simp [go_sem]) ⟨wx.heap.size, rfl, hE.size, Bx.new _ _ _⟩ (bnew (Below.refl _ _)) (fun h => by cases h)
          · intro t op ht hlt; cases hlt
          intro vs wy hE hvs _
          have k11 : vs 11 = .float .f32 t0 := hvs 11 (by omega)
          obtain ⟨p8, k12, hp8, x8⟩ := hvs 12 (by omega)
          simp only [List.drop_succ_cons, List.drop_zero, putAll, dstAt, List.getElem?_toArray, List.getElem?_cons_zero, List.getElem?_cons_succ, Option.bind_some, Act.put, List.setIfInBounds_toArray, List.set_cons_zero, List.set_cons_succ, k11, k12]
          clear hvs k11 k12
          obtain ⟨q8, f8, l8⟩ := x8.all
          have hszB := B.size
          have l6 := x6.lt
          have l7 := x7.lt
          have hp68 : p6 < p8 := Nat.lt_of_lt_of_le l6 hp8
          have hp78 : p7 < p8 := Nat.lt_of_lt_of_le l7 hp8
          have l4 := x4.lt
          have hp48 : W.heap.size + 1 < p8 := Nat.lt_of_lt_of_le l4 hp8
          go_upto_region 10 with fail
          refine name_world ?_
          intro w3 hw3
          replace x6 : Bx w3 p6 44 #[.int .i64 afr, .int .i64 aease, .int .i64 akind, .float .f32 aX, .float .f32 aY, .float .f32 aWd, .float .f32 aH, .float .f32 aS, .slice apa apn apc, .bool aout] := by rw [hw3]; exact (Bx.other (x6.keep hE) _ _ (by first | omega | (simp; done) | (simp; omega)))
          replace x7 : Bx w3 p7 44 #[.int .i64 bfr, .int .i64 bease, .int .i64 bkind, .float .f32 bX, .float .f32 bY, .float .f32 bWd, .float .f32 bH, .float .f32 bS, .slice bpa apn bpc, .bool bout] := by rw [hw3]; exact (Bx.other (x7.keep hE) _ _ (by first | omega | (simp; done) | (simp; omega)))
          replace x4 : Bx w3 (W.heap.size + 1) 25 #[.int .i64 0, .float .f32 0, .float .f32 0, .float .f32 0, .float .f32 0, .float .f32 0, .slice none 0 0, .bool false] := by rw [hw3]; exact (Bx.other (x4.keep hE) _ _ (by first | omega | (simp; done) | (simp; omega)))
          replace x8 : Bx w3 p8 22 #[.float .f32 t0] := by rw [hw3]; exact x8.set 0 _
          replace B : Below W.heap.size W w3 := by rw [hw3]; exact bput (by omega) (B.trans (hE.mono hszB))
          clear hE hw3 x3 q8 f8 l8 hszB l6 l7 l4 hp8 hs1 hs2 Hdiv
          obtain ⟨q6, f6, l6⟩ := x6.all
          go_upto_block 1 with fail
          have hT : shareT aease afr bfr f = if aease = 3 then smB t0 else if aease = 1 then 0 else t0 := by rw [Ht0.out]; rfl
          rw [hT] at Hwin HT0
          generalize hTT : (if aease = 3 then smB t0 else if aease = 1 then 0 else t0) = T at *
          clear hT Ht0
          go_cut [] (fun wx => Bx wx p8 22 #[.float .f32 T] ∧ Bx wx p6 44 #[.int .i64 afr, .int .i64 aease, .int .i64 akind, .float .f32 aX, .float .f32 aY, .float .f32 aWd, .float .f32 aH, .float .f32 aS, .slice apa apn apc, .bool aout] ∧ Bx wx p7 44 #[.int .i64 bfr, .int .i64 bease, .int .i64 bkind, .float .f32 bX, .float .f32 bY, .float .f32 bWd, .float .f32 bH, .float .f32 bS, .slice bpa apn bpc, .bool bout] ∧ Bx wx (W.heap.size + 1) 25 #[.int .i64 0, .float .f32 0, .float .f32 0, .float .f32 0, .float .f32 0, .float .f32 0, .slice none 0 0, .bool false] ∧ Below W.heap.size W wx)
          case first =>
            have hTh := Lib.hid hTT
            clear hTT
            obtain ⟨q8, f8, l8⟩ := x8.all
            by_cases e1 : aease = 1
            · have ee1 : (aease == 1) = true := by rw [e1]; rfl
              have E1 := Lib.hid e1
              clear e1
              go_wp2_with fail
              go_meet
              have hT0 : T = 0 := by rw [← hTh.out, if_neg (by rw [E1.out]; decide), if_pos E1.out]
              rw [hT0]
              exact ⟨x8.set 0 _, (Bx.other x6 _ _ (by first | omega | (simp; done) | (simp; omega))), (Bx.other x7 _ _ (by first | omega | (simp; done) | (simp; omega))), (Bx.other x4 _ _ (by first | omega | (simp; done) | (simp; omega))), bput (by omega) B⟩
            have ee1 : (aease == 1) = false := beq_eq_false_iff_ne.2 e1
            by_cases e3 : aease = 3
            · have ee3 : (aease == 3) = true := by rw [e3]; rfl
              have E3 := Lib.hid e3
              clear e3 e1
              go_wp2_with fail
              refine (ref_SmoothOf t0 _ Hqn.out).mono ?_
              rintro e w' ⟨rfl, rfl⟩
              go_wp2_with fail
              go_meet
              have hT0 : T = smB t0 := by rw [← hTh.out, if_pos E3.out]
              rw [hT0]
              exact ⟨x8.set 0 _, (Bx.other x6 _ _ (by first | omega | (simp; done) | (simp; omega))), (Bx.other x7 _ _ (by first | omega | (simp; done) | (simp; omega))), (Bx.other x4 _ _ (by first | omega | (simp; done) | (simp; omega))), bput (by omega) B⟩
            have ee3 : (aease == 3) = false := beq_eq_false_iff_ne.2 e3
            go_wp2_with fail
            go_meet
            have hT0 : T = t0 := by rw [← hTh.out, if_neg e3, if_neg e1]
            rw [hT0]
            exact ⟨x8, x6, x7, x4, B⟩
          case rest =>
            obtain ⟨x8, x6, x7, x4, B⟩ := hcut
            clear q6 f6 l6 hTT Hqn
            have HT := HT0
            obtain ⟨q6, f6, l6⟩ := x6.all
            obtain ⟨q7, f7, l7⟩ := x7.all
            go_upto_region 16 with fail
            generalize wc = w4 at *
            have hsz4 := x4.lt
            have l8 := x8.lt
            go_cut [10, 11] (fun s10 s11 wx => ∃ p10 p11, s10 = .pointer (some ⟨p10, 0, none⟩) ∧ s11 = .pointer (some ⟨p11, 0, none⟩) ∧ p10 ≠ p11 ∧ p8 + 1 ≤ p10 ∧ p8 + 1 ≤ p11 ∧ Bx wx p10 25 #[.int .i64 akind, .float .f32 aX, .float .f32 aY, .float .f32 aWd, .float .f32 aH, .float .f32 aS, .slice apa apn apc, .bool aout] ∧ Bx wx p11 25 #[.int .i64 bkind, .float .f32 bX, .float .f32 bY, .float .f32 bWd, .float .f32 bH, .float .f32 bS, .slice bpa apn bpc, .bool bout] ∧ Bx wx p8 22 #[.float .f32 T] ∧ Bx wx (W.heap.size + 1) 25 #[.int .i64 0, .float .f32 0, .float .f32 0, .float .f32 0, .float .f32 0, .float .f32 0, .slice none 0 0, .bool false] ∧ Below W.heap.size W wx)
            case first =>
              go_region
              all_goals
                go_wp2_with fail
                go_meet
                refine two_new hsz4 B x8 x4 (by omega) ?_
                first
                  | exact .inl ⟨rfl, rfl, rfl⟩
                  | exact .inr ⟨rfl, rfl, rfl⟩
            case rest =>
              obtain ⟨p10, p11, rfl, rfl, hne2, hp10, hp11, x10, x11, x8, x4, B⟩ := hcut
              clear q6 f6 l6 q7 f7 l7 x6 x7 hsz4 l8
              go_upto_region 17 with fail
              generalize wc = w5 at *
              have l10 := x10.lt
              have l11 := x11.lt
              have hszB := B.size
              refine wp_region_grd 36 (fun _ => false) (fun q u w' => if q = 35 then ∃ gn, u = .pointer (some ⟨gn, 0, none⟩) ∧ w5.heap.size ≤ gn ∧ Bx w' gn 25 #[.int .i64 0, .float .f32 0, .float .f32 0, .float .f32 0, .float .f32 0, .float .f32 0, .slice none 0 0, .bool false] else u = [.pointer (some ⟨p10, 0, none⟩), .int .i64 akind, .pointer (some ⟨p10, 7, none⟩), .bool aout, .func (.func 43) #[] #[.pointer (some ⟨p8, 0, none⟩)], .pointer (some ⟨p10, 1, none⟩), .float .f32 aX, .pointer (some ⟨p11, 1, none⟩), .float .f32 bX, .float .f32 (lerpV aX bX T), .func (.func 43) #[] #[.pointer (some ⟨p8, 0, none⟩)], .pointer (some ⟨p10, 2, none⟩), .float .f32 aY, .pointer (some ⟨p11, 2, none⟩), .float .f32 bY, .float .f32 (lerpV aY bY T), .func (.func 43) #[] #[.pointer (some ⟨p8, 0, none⟩)], .pointer (some ⟨p10, 3, none⟩), .float .f32 aWd, .pointer (some ⟨p11, 3, none⟩), .float .f32 bWd, .float .f32 (lerpV aWd bWd T), .func (.func 43) #[] #[.pointer (some ⟨p8, 0, none⟩)], .pointer (some ⟨p10, 4, none⟩), .float .f32 aH, .pointer (some ⟨p11, 4, none⟩), .float .f32 bH, .float .f32 (lerpV aH bH T), .func (.func 43) #[] #[.pointer (some ⟨p8, 0, none⟩)], .pointer (some ⟨p10, 5, none⟩), .float .f32 aS, .pointer (some ⟨p11, 5, none⟩), .float .f32 bS, .float .f32 (lerpV aS bS T), .agg #[.int .i64 akind, .float .f32 (lerpV aX bX T), .float .f32 (lerpV aY bY T), .float .f32 (lerpV aWd bWd T), .float .f32 (lerpV aH bH T), .float .f32 (lerpV aS bS T), .slice none 0 0, .bool aout], undef].getD q undef) (fun _ => false) (fun w' => Below w5.heap.size w5 w') (by kernel_rfl) (by kernel_rfl) (fun _ _ _ _ _ h => h)
                (fun _ _ h e => e.trans (h.mono e.size)) (fun t u a' b' hb h => ?_) (Below.refl _ _).drew ?_ ?_ ?_
              · split
                · rename_i h4
                  rw [if_pos h4] at h
                  obtain ⟨gn, e1, e2, e3⟩ := h
                  exact ⟨gn, e1, e2, e3.keep hb⟩
                · rename_i h4
                  rw [if_neg h4] at h
                  exact h
              · intro t op ht hlt hop
                clear hlt
                rcases (by omega : t = 0 ∨ t = 1 ∨ t = 2 ∨ t = 3 ∨ t = 4 ∨ t = 5 ∨ t = 6 ∨ t = 7 ∨ t = 8 ∨ t = 9 ∨ t = 10 ∨ t = 11 ∨ t = 12 ∨ t = 13 ∨ t = 14 ∨ t = 15 ∨ t = 16 ∨ t = 17 ∨ t = 18 ∨ t = 19 ∨ t = 20 ∨ t = 21 ∨ t = 22 ∨ t = 23 ∨ t = 24 ∨ t = 25 ∨ t = 26 ∨ t = 27 ∨ t = 28 ∨ t = 29 ∨ t = 30 ∨ t = 31 ∨ t = 32 ∨ t = 33 ∨ t = 34 ∨ t = 35) with rfl | rfl | rfl | rfl | rfl | rfl | rfl | rfl | rfl | rfl | rfl | rfl | rfl | rfl | rfl | rfl | rfl | rfl | rfl | rfl | rfl | rfl | rfl | rfl | rfl | rfl | rfl | rfl | rfl | rfl | rfl | rfl | rfl | rfl | rfl | rfl
                all_goals simp only [List.getElem?_cons_zero, List.getElem?_cons_succ, Option.some.injEq] at hop
                all_goals subst hop
                all_goals intro a wx hE hag hdep
                · refine grd_none rfl ?_
                  have e0 := slot_eq (hag 10 rfl)
                  exact rel_pure _ rfl rfl (by simp [go_sem, e0])
                · refine grd_none rfl ?_
                  have e0 := slot_eq (hdep ⟨0, .data⟩ (by simp) rfl)
                  have hq := (x10.keep hE).all.1
                  exact rel_pure _ rfl rfl (by simp [go_sem, e0, hq])
                · refine grd_none rfl ?_
                  have e0 := slot_eq (hag 10 rfl)
                  exact rel_pure _ rfl rfl (by simp [go_sem, e0])
                · refine grd_none rfl ?_
                  have e0 := slot_eq (hdep ⟨2, .data⟩ (by simp) rfl)
                  have hq := (x10.keep hE).all.1
                  exact rel_pure _ rfl rfl (by simp [go_sem, e0, hq])
                · refine grd_none rfl ?_
                  have e0 := slot_eq (hag 9 rfl)
                  exact rel_pure _ rfl rfl (by simp [go_sem, e0])
                · refine grd_none rfl ?_
                  have e0 := slot_eq (hag 10 rfl)
                  exact rel_pure _ rfl rfl (by simp [go_sem, e0])
                · refine grd_none rfl ?_
                  have e0 := slot_eq (hdep ⟨5, .data⟩ (by simp) rfl)
                  have hq := (x10.keep hE).all.1
                  exact rel_pure _ rfl rfl (by simp [go_sem, e0, hq])
                · refine grd_none rfl ?_
                  have e0 := slot_eq (hag 11 rfl)
                  exact rel_pure _ rfl rfl (by simp [go_sem, e0])
                · refine grd_none rfl ?_
                  have e0 := slot_eq (hdep ⟨7, .data⟩ (by simp) rfl)
                  have hq := (x11.keep hE).all.1
                  exact rel_pure _ rfl rfl (by simp [go_sem, e0, hq])
                · refine grd_none rfl ?_
                  have e0 := slot_eq (hdep ⟨4, .data⟩ (by simp) rfl)
                  have e1 := slot_eq (hdep ⟨6, .data⟩ (by simp) rfl)
                  have e2 := slot_eq (hdep ⟨8, .data⟩ (by simp) rfl)
                  refine rel_call (run_go_callv2 (args := #[.float .f32 aX, .float .f32 bX, .pointer (some ⟨p8, 0, none⟩)]) Try.func43 (by kernel_rfl) (by kernel_rfl) _ _ _ _ _ _ _ _ _ _ _ e0 (by simp [Act.eval, e1, e2])) rfl ?_
                  refine (ref_mix MX.out.1 MX.out.2 HT.out wx (x8.keep hE)).mono ?_
                  rintro e w' ⟨rfl, rfl⟩
                  exact ⟨_, rfl, rfl, Below.refl _ _⟩
                · refine grd_none rfl ?_
                  have e0 := slot_eq (hag 9 rfl)
                  exact rel_pure _ rfl rfl (by simp [go_sem, e0])
                · refine grd_none rfl ?_
                  have e0 := slot_eq (hag 10 rfl)
                  exact rel_pure _ rfl rfl (by simp [go_sem, e0])
                · refine grd_none rfl ?_
                  have e0 := slot_eq (hdep ⟨11, .data⟩ (by simp) rfl)
                  have hq := (x10.keep hE).all.1
                  exact rel_pure _ rfl rfl (by simp [go_sem, e0, hq])
                · refine grd_none rfl ?_
                  have e0 := slot_eq (hag 11 rfl)
                  exact rel_pure _ rfl rfl (by simp [go_sem, e0])
                · refine grd_none rfl ?_
                  have e0 := slot_eq (hdep ⟨13, .data⟩ (by simp) rfl)
                  have hq := (x11.keep hE).all.1
                  exact rel_pure _ rfl rfl (by simp [go_sem, e0, hq])
                · refine grd_none rfl ?_
                  have e0 := slot_eq (hdep ⟨10, .data⟩ (by simp) rfl)
                  have e1 := slot_eq (hdep ⟨12, .data⟩ (by simp) rfl)
                  have e2 := slot_eq (hdep ⟨14, .data⟩ (by simp) rfl)
                  refine rel_call (run_go_callv2 (args := #[.float .f32 aY, .float .f32 bY, .pointer (some ⟨p8, 0, none⟩)]) Try.func43 (by kernel_rfl) (by kernel_rfl) _ _ _ _ _ _ _ _ _ _ _ e0 (by simp [Act.eval, e1, e2])) rfl ?_
                  refine (ref_mix MY.out.1 MY.out.2 HT.out wx (x8.keep hE)).mono ?_
                  rintro e w' ⟨rfl, rfl⟩
                  exact ⟨_, rfl, rfl, Below.refl _ _⟩
                · refine grd_none rfl ?_
                  have e0 := slot_eq (hag 9 rfl)
                  exact rel_pure _ rfl rfl (by simp [go_sem, e0])
                · refine grd_none rfl ?_
                  have e0 := slot_eq (hag 10 rfl)
                  exact rel_pure _ rfl rfl (by simp [go_sem, e0])
                · refine grd_none rfl ?_
                  have e0 := slot_eq (hdep ⟨17, .data⟩ (by simp) rfl)
                  have hq := (x10.keep hE).all.1
                  exact rel_pure _ rfl rfl (by simp [go_sem, e0, hq])
                · refine grd_none rfl ?_
                  have e0 := slot_eq (hag 11 rfl)
                  exact rel_pure _ rfl rfl (by simp [go_sem, e0])
                · refine grd_none rfl ?_
                  have e0 := slot_eq (hdep ⟨19, .data⟩ (by simp) rfl)
                  have hq := (x11.keep hE).all.1
                  exact rel_pure _ rfl rfl (by simp [go_sem, e0, hq])
                · refine grd_none rfl ?_
                  have e0 := slot_eq (hdep ⟨16, .data⟩ (by simp) rfl)
                  have e1 := slot_eq (hdep ⟨18, .data⟩ (by simp) rfl)
                  have e2 := slot_eq (hdep ⟨20, .data⟩ (by simp) rfl)
                  refine rel_call (run_go_callv2 (args := #[.float .f32 aWd, .float .f32 bWd, .pointer (some ⟨p8, 0, none⟩)]) Try.func43 (by kernel_rfl) (by kernel_rfl) _ _ _ _ _ _ _ _ _ _ _ e0 (by simp [Act.eval, e1, e2])) rfl ?_
                  refine (ref_mix MW.out.1 MW.out.2 HT.out wx (x8.keep hE)).mono ?_
                  rintro e w' ⟨rfl, rfl⟩
                  exact ⟨_, rfl, rfl, Below.refl _ _⟩
                · refine grd_none rfl ?_
                  have e0 := slot_eq (hag 9 rfl)
                  exact rel_pure _ rfl rfl (by simp [go_sem, e0])
                · refine grd_none rfl ?_
                  have e0 := slot_eq (hag 10 rfl)
                  exact rel_pure _ rfl rfl (by simp [go_sem, e0])
                · refine grd_none rfl ?_
                  have e0 := slot_eq (hdep ⟨23, .data⟩ (by simp) rfl)
                  have hq := (x10.keep hE).all.1
                  exact rel_pure _ rfl rfl (by simp [go_sem, e0, hq])
                · refine grd_none rfl ?_
                  have e0 := slot_eq (hag 11 rfl)
                  exact rel_pure _ rfl rfl (by simp [go_sem, e0])
                · refine grd_none rfl ?_
                  have e0 := slot_eq (hdep ⟨25, .data⟩ (by simp) rfl)
                  have hq := (x11.keep hE).all.1
                  exact rel_pure _ rfl rfl (by simp [go_sem, e0, hq])
                · refine grd_none rfl ?_
                  have e0 := slot_eq (hdep ⟨22, .data⟩ (by simp) rfl)
                  have e1 := slot_eq (hdep ⟨24, .data⟩ (by simp) rfl)
                  have e2 := slot_eq (hdep ⟨26, .data⟩ (by simp) rfl)
                  refine rel_call (run_go_callv2 (args := #[.float .f32 aH, .float .f32 bH, .pointer (some ⟨p8, 0, none⟩)]) Try.func43 (by kernel_rfl) (by kernel_rfl) _ _ _ _ _ _ _ _ _ _ _ e0 (by simp [Act.eval, e1, e2])) rfl ?_
                  refine (ref_mix MH.out.1 MH.out.2 HT.out wx (x8.keep hE)).mono ?_
                  rintro e w' ⟨rfl, rfl⟩
                  exact ⟨_, rfl, rfl, Below.refl _ _⟩
                · refine grd_none rfl ?_
                  have e0 := slot_eq (hag 9 rfl)
                  exact rel_pure _ rfl rfl (by simp [go_sem, e0])
                · refine grd_none rfl ?_
                  have e0 := slot_eq (hag 10 rfl)
                  exact rel_pure _ rfl rfl (by simp [go_sem, e0])
                · refine grd_none rfl ?_
                  have e0 := slot_eq (hdep ⟨29, .data⟩ (by simp) rfl)
                  have hq := (x10.keep hE).all.1
                  exact rel_pure _ rfl rfl (by simp [go_sem, e0, hq])
                · refine grd_none rfl ?_
                  have e0 := slot_eq (hag 11 rfl)
                  exact rel_pure _ rfl rfl (by simp [go_sem, e0])
                · refine grd_none rfl ?_
                  have e0 := slot_eq (hdep ⟨31, .data⟩ (by simp) rfl)
                  have hq := (x11.keep hE).all.1
                  exact rel_pure _ rfl rfl (by simp [go_sem, e0, hq])
                · refine grd_none rfl ?_
                  have e0 := slot_eq (hdep ⟨28, .data⟩ (by simp) rfl)
                  have e1 := slot_eq (hdep ⟨30, .data⟩ (by simp) rfl)
                  have e2 := slot_eq (hdep ⟨32, .data⟩ (by simp) rfl)
                  refine rel_call (run_go_callv2 (args := #[.float .f32 aS, .float .f32 bS, .pointer (some ⟨p8, 0, none⟩)]) Try.func43 (by kernel_rfl) (by kernel_rfl) _ _ _ _ _ _ _ _ _ _ _ e0 (by simp [Act.eval, e1, e2])) rfl ?_
                  refine (ref_mix MS.out.1 MS.out.2 HT.out wx (x8.keep hE)).mono ?_
                  rintro e w' ⟨rfl, rfl⟩
                  exact ⟨_, rfl, rfl, Below.refl _ _⟩
                · refine grd_none rfl ?_
                  have e0 := slot_eq (hdep ⟨1, .data⟩ (by simp) rfl)
                  have e1 := slot_eq (hdep ⟨3, .data⟩ (by simp) rfl)
                  have e2 := slot_eq (hdep ⟨9, .data⟩ (by simp) rfl)
                  have e3 := slot_eq (hdep ⟨15, .data⟩ (by simp) rfl)
                  have e4 := slot_eq (hdep ⟨21, .data⟩ (by simp) rfl)
                  have e5 := slot_eq (hdep ⟨27, .data⟩ (by simp) rfl)
                  have e6 := slot_eq (hdep ⟨33, .data⟩ (by simp) rfl)
                  exact rel_pure _ rfl rfl (by simp [go_sem, e0, e1, e2, e3, e4, e5, e6])
                · refine grd_none rfl ?_
                  exact rel_val (v := .pointer (some ⟨wx.heap.size, 0, none⟩)) (w' := wx.alloc (.cells #[.int .i64 0, .float .f32 0, .float .f32 0, .float .f32 0, .float .f32 0, .float .f32 0, .slice none 0 0, .bool false] 25)) (by simp [go_sem]) ⟨wx.heap.size, rfl, hE.size, Bx.new _ _ _⟩ (bnew (Below.refl _ _)) (fun h => by cases h)
              · intro t op ht hlt; cases hlt
              intro vs wy hE hvs _
              have k34 : vs 34 = .agg #[.int .i64 akind, .float .f32 (lerpV aX bX T), .float .f32 (lerpV aY bY T), .float .f32 (lerpV aWd bWd T), .float .f32 (lerpV aH bH T), .float .f32 (lerpV aS bS T), .slice none 0 0, .bool aout] := hvs 34 (by omega)
              obtain ⟨p12, k35, hp12, x12⟩ := hvs 35 (by omega)
              simp only [List.drop_succ_cons, List.drop_zero, putAll, dstAt, List.getElem?_toArray, List.getElem?_cons_zero, List.getElem?_cons_succ, Option.bind_some, Act.put, List.setIfInBounds_toArray, List.set_cons_zero, List.set_cons_succ, k34, k35]
              clear hvs k34 k35
              obtain ⟨q12, f12, l12⟩ := x12.all
              have g10 : p10 < p12 := Nat.lt_of_lt_of_le l10 hp12
              have g11 : p11 < p12 := Nat.lt_of_lt_of_le l11 hp12
              go_upto_region 18 with fail
              refine name_world ?_
              intro w6 hw6
              replace x12 : Bx w6 p12 25 #[.int .i64 akind, .float .f32 (lerpV aX bX T), .float .f32 (lerpV aY bY T), .float .f32 (lerpV aWd bWd T), .float .f32 (lerpV aH bH T), .float .f32 (lerpV aS bS T), .slice none 0 0, .bool aout] := by rw [hw6]; exact (Bx.set (Bx.set (Bx.set (Bx.set (Bx.set (Bx.set (Bx.set (Bx.set x12 0 _) 1 _) 2 _) 3 _) 4 _) 5 _) 6 _) 7 _)
              replace x10 : Bx w6 p10 25 #[.int .i64 akind, .float .f32 aX, .float .f32 aY, .float .f32 aWd, .float .f32 aH, .float .f32 aS, .slice apa apn apc, .bool aout] := by rw [hw6]; exact (Bx.other (Bx.other (Bx.other (Bx.other (Bx.other (Bx.other (Bx.other (Bx.other (x10.keep hE) _ _ (by first | omega | (simp; done) | (simp; omega))) _ _ (by first | omega | (simp; done) | (simp; omega))) _ _ (by first | omega | (simp; done) | (simp; omega))) _ _ (by first | omega | (simp; done) | (simp; omega))) _ _ (by first | omega | (simp; done) | (simp; omega))) _ _ (by first | omega | (simp; done) | (simp; omega))) _ _ (by first | omega | (simp; done) | (simp; omega))) _ _ (by first | omega | (simp; done) | (simp; omega)))
              replace x11 : Bx w6 p11 25 #[.int .i64 bkind, .float .f32 bX, .float .f32 bY, .float .f32 bWd, .float .f32 bH, .float .f32 bS, .slice bpa apn bpc, .bool bout] := by rw [hw6]; exact (Bx.other (Bx.other (Bx.other (Bx.other (Bx.other (Bx.other (Bx.other (Bx.other (x11.keep hE) _ _ (by first | omega | (simp; done) | (simp; omega))) _ _ (by first | omega | (simp; done) | (simp; omega))) _ _ (by first | omega | (simp; done) | (simp; omega))) _ _ (by first | omega | (simp; done) | (simp; omega))) _ _ (by first | omega | (simp; done) | (simp; omega))) _ _ (by first | omega | (simp; done) | (simp; omega))) _ _ (by first | omega | (simp; done) | (simp; omega))) _ _ (by first | omega | (simp; done) | (simp; omega)))
              replace x8 : Bx w6 p8 22 #[.float .f32 T] := by rw [hw6]; exact (Bx.other (Bx.other (Bx.other (Bx.other (Bx.other (Bx.other (Bx.other (Bx.other (x8.keep hE) _ _ (by first | omega | (simp; done) | (simp; omega))) _ _ (by first | omega | (simp; done) | (simp; omega))) _ _ (by first | omega | (simp; done) | (simp; omega))) _ _ (by first | omega | (simp; done) | (simp; omega))) _ _ (by first | omega | (simp; done) | (simp; omega))) _ _ (by first | omega | (simp; done) | (simp; omega))) _ _ (by first | omega | (simp; done) | (simp; omega))) _ _ (by first | omega | (simp; done) | (simp; omega)))
              replace x4 : Bx w6 (W.heap.size + 1) 25 #[.int .i64 0, .float .f32 0, .float .f32 0, .float .f32 0, .float .f32 0, .float .f32 0, .slice none 0 0, .bool false] := by rw [hw6]; exact (Bx.other (Bx.other (Bx.other (Bx.other (Bx.other (Bx.other (Bx.other (Bx.other (x4.keep hE) _ _ (by first | omega | (simp; done) | (simp; omega))) _ _ (by first | omega | (simp; done) | (simp; omega))) _ _ (by first | omega | (simp; done) | (simp; omega))) _ _ (by first | omega | (simp; done) | (simp; omega))) _ _ (by first | omega | (simp; done) | (simp; omega))) _ _ (by first | omega | (simp; done) | (simp; omega))) _ _ (by first | omega | (simp; done) | (simp; omega))) _ _ (by first | omega | (simp; done) | (simp; omega)))
              replace B : Below W.heap.size W w6 := by rw [hw6]; exact bput (by omega) (bput (by omega) (bput (by omega) (bput (by omega) (bput (by omega) (bput (by omega) (bput (by omega) (bput (by omega) ((B.trans (hE.mono hszB))))))))))
              clear hE hw6 q12 f12 l12 l10 l11 hszB hp12
              have hPA : Hid (0 < apn → ∃ ab ao, apa = some ⟨ab, ao, none⟩ ∧ ab < W.heap.size ∧ ∀ k, k < aps.length → PtAt W ab (ao + k * 2) (aps.getD k default)) := Lib.hid fun h0 => by
                obtain ⟨a1, c1, h1, _, h2⟩ := Hasp.out
                rcases h2 with h2 | ⟨bb, bo, h3, h4, h5⟩
                · exfalso; have := Hapn.out; rw [h2] at this; simp at this; omega
                · injection h1 with h1
                  exact ⟨bb, bo, h1.trans h3, h4, h5⟩
              have hPB : Hid (0 < apn → ∃ bb bo, bpa = some ⟨bb, bo, none⟩ ∧ bb < W.heap.size ∧ ∀ k, k < bps.length → PtAt W bb (bo + k * 2) (bps.getD k default)) := Lib.hid fun h0 => by
                obtain ⟨a1, c1, h1, _, h2⟩ := Hbsp.out
                rcases h2 with h2 | ⟨bb, bo, h3, h4, h5⟩
                · exfalso; have h6 := HPL.out; have h7 := Hapn.out; rw [h2] at h6; simp at h6; omega
                · injection h1 with h1
                  exact ⟨bb, bo, h1.trans h3, h4, h5⟩
              have lx12 := x12.lt
              obtain ⟨q10, f10, l10⟩ := x10.all
              go_wp2_with fail
              go_loopw [125] (fun i wr => ∃ (m : Nat) (v' : Value), m ≤ apn ∧ i = .int .i64 (m : Int) ∧ OutP (p12 + 1) wr v' ((mixP aps bps T).take m) ∧ Bx wr p12 25 #[.int .i64 akind, .float .f32 (lerpV aX bX T), .float .f32 (lerpV aY bY T), .float .f32 (lerpV aWd bWd T), .float .f32 (lerpV aH bH T), .float .f32 (lerpV aS bS T), v', .bool aout] ∧ Bx wr p8 22 #[.float .f32 T] ∧ Bx wr p10 25 #[.int .i64 akind, .float .f32 aX, .float .f32 aY, .float .f32 aWd, .float .f32 aH, .float .f32 aS, .slice apa apn apc, .bool aout] ∧ Bx wr p11 25 #[.int .i64 bkind, .float .f32 bX, .float .f32 bY, .float .f32 bWd, .float .f32 bH, .float .f32 bS, .slice bpa apn bpc, .bool bout] ∧ Bx wr (W.heap.size + 1) 25 #[.int .i64 0, .float .f32 0, .float .f32 0, .float .f32 0, .float .f32 0, .float .f32 0, .slice none 0 0, .bool false] ∧ Below W.heap.size W wr ∧ p12 + 1 ≤ wr.heap.size) (fun i _ => apn - (intOf i).toNat)
              case atStart => exact ⟨0, _, by omega, rfl, by rw [List.take_zero]; exact OutP.nil _ _, x12, x8, x10, x11, x4, B, lx12⟩
              case round =>
                clear x12 x8 x10 x11 x4 B q10 f10 l10 lx12
                obtain ⟨m, v', hm, rfl, hout, x12, x8, x10, x11, x4, B, hsz⟩ := hrel
                by_cases hmn : m < apn
                · have hmi : (m : Int) < (apn : Int) := by omega
                  obtain ⟨ab, ao, rfl, habl, hPa⟩ := hPA.out (by omega)
                  obtain ⟨bb, bo, rfl, hbbl, hPb⟩ := hPB.out (by omega)
                  obtain ⟨U1, U2⟩ := hPa m (by rw [← Hapn.out]; exact hmn)
                  obtain ⟨V1, V2⟩ := hPb m (by rw [HPL.out, ← Hapn.out]; exact hmn)
                  have r1 := MP1.out m (by rw [← Hapn.out]; exact hmn)
                  have r2 := MP2.out m (by rw [HPL.out, ← Hapn.out]; exact hmn)
                  have hst : (mixP aps bps T).take (m + 1) = (mixP aps bps T).take m ++ [(mixI (aps.getD m default).1 (bps.getD m default).1 T, mixI (aps.getD m default).2 (bps.getD m default).2 T)] := by
                    have hml : m < (mixP aps bps T).length := by rw [mixP_len, ← Hapn.out]; exact hmn
                    rw [List.take_succ_eq_append_getElem hml]
                    have hg := mixP_get aps bps T m (by rw [← Hapn.out]; exact hmn)
                    rw [show (mixP aps bps T).getD m default = (mixP aps bps T)[m] by simp [List.getD, hml]] at hg
                    rw [hg]
                  have hLl : ((mixP aps bps T).take m).length ≤ 1000000 := by rw [List.length_take]; omega
                  generalize (aps.getD m default).1 = px at *
                  generalize (aps.getD m default).2 = py at *
                  generalize (bps.getD m default).1 = qx at *
                  generalize (bps.getD m default).2 = qy at *
                  have Hst := Lib.hid hst
                  have HU1 := Lib.hid U1
                  have HU2 := Lib.hid U2
                  have HV1 := Lib.hid V1
                  have HV2 := Lib.hid V2
                  have hx12 : Hid (SmB 20 (floatOfInt .f32 px) ∧ SmB 20 (floatOfInt .f32 qx)) := Lib.hid ⟨ofInt_smb r1.1 r1.2.1, ofInt_smb r2.1 r2.2.1⟩
                  have hy12 : Hid (SmB 20 (floatOfInt .f32 py) ∧ SmB 20 (floatOfInt .f32 qy)) := Lib.hid ⟨ofInt_smb r1.2.2.1 r1.2.2.2, ofInt_smb r2.2.2.1 r2.2.2.2⟩
                  have hszB := B.size
                  have u1 : Hid (∀ w', Below wr.heap.size wr w' → w'.cell? ⟨ab, ao + m * 2, none⟩ = some (.int .i64 px)) := Lib.hid fun w' h => ((B.trans (h.mono hszB)).cell (p := ⟨ab, ao + m * 2, none⟩) habl).trans HU1.out
                  have v1 : Hid (∀ w', Below wr.heap.size wr w' → w'.cell? ⟨bb, bo + m * 2, none⟩ = some (.int .i64 qx)) := Lib.hid fun w' h => ((B.trans (h.mono hszB)).cell (p := ⟨bb, bo + m * 2, none⟩) hbbl).trans HV1.out
                  have u2 : Hid (∀ w', Below wr.heap.size wr w' → w'.cell? ⟨ab, ao + m * 2 + 1, none⟩ = some (.int .i64 py)) := Lib.hid fun w' h => ((B.trans (h.mono hszB)).cell (p := ⟨ab, ao + m * 2 + 1, none⟩) habl).trans HU2.out
                  have v2 : Hid (∀ w', Below wr.heap.size wr w' → w'.cell? ⟨bb, bo + m * 2 + 1, none⟩ = some (.int .i64 qy)) := Lib.hid fun w' h => ((B.trans (h.mono hszB)).cell (p := ⟨bb, bo + m * 2 + 1, none⟩) hbbl).trans HV2.out
                  clear hst U1 U2 V1 V2 hPa hPb HU1 HU2 HV1 HV2 r1 r2 hszB hPA hPB
                  go_upto_region 21 with fail
                  refine wp_region_late 20 (fun q => q == 19) (fun q u w' => if q = 16 then ∃ bq, u = .tuple #[.int .i64 (mixI px qx T), .bool bq] else if q = 17 then ∃ bq, u = .tuple #[.int .i64 (mixI px qx T), .bool bq] else if q = 19 then ∃ bq, u = .bool bq else u = [.func (.func 43) #[] #[.pointer (some ⟨p8, 0, none⟩)], .pointer (some ⟨p10, 6, none⟩), .slice (some ⟨ab, ao, none⟩) apn apc, .int .i64 (m : Int), .pointer (some ⟨ab, ao + m * 2, none⟩), .pointer (some ⟨ab, ao + m * 2, none⟩), .int .i64 px, .float .f32 (floatOfInt .f32 px), .pointer (some ⟨p11, 6, none⟩), .slice (some ⟨bb, bo, none⟩) apn bpc, .int .i64 (m : Int), .pointer (some ⟨bb, bo + m * 2, none⟩), .pointer (some ⟨bb, bo + m * 2, none⟩), .int .i64 qx, .float .f32 (floatOfInt .f32 qx), .float .f32 (lerpV (floatOfInt .f32 px) (floatOfInt .f32 qx) T), undef, undef, .int .i64 (mixI px qx T), undef].getD q undef) (fun _ => false) (fun w' => Below wr.heap.size wr w') (by kernel_rfl) (by kernel_rfl) (fun _ _ _ _ _ h => h)
                    (fun _ _ h e => e.trans (h.mono e.size)) (fun t u a' b' hb h => ?_) (Below.refl _ _).drew ?_ ?_ ?_
                  · exact h
                  · intro t op ht hlt hop
                    simp only [Bool.or_eq_false_iff, beq_eq_false_iff_ne] at hlt
                    rcases (by omega : t = 0 ∨ t = 1 ∨ t = 2 ∨ t = 3 ∨ t = 4 ∨ t = 5 ∨ t = 6 ∨ t = 7 ∨ t = 8 ∨ t = 9 ∨ t = 10 ∨ t = 11 ∨ t = 12 ∨ t = 13 ∨ t = 14 ∨ t = 15 ∨ t = 16 ∨ t = 17 ∨ t = 18) with rfl | rfl | rfl | rfl | rfl | rfl | rfl | rfl | rfl | rfl | rfl | rfl | rfl | rfl | rfl | rfl | rfl | rfl | rfl
                    all_goals simp only [List.getElem?_cons_zero, List.getElem?_cons_succ, Option.some.injEq] at hop
                    all_goals subst hop
                    all_goals intro a wx hE hag hdep
                    · have e0 := slot_eq (hag 9 rfl)
                      exact rel_pure _ rfl rfl (by simp [go_sem, e0])
                    · have e0 := slot_eq (hag 10 rfl)
                      exact rel_pure _ rfl rfl (by simp [go_sem, e0])
                    · have e0 := slot_eq (hdep ⟨1, .data⟩ (by simp) rfl)
                      have hq := (x10.keep hE).all.1
                      exact rel_pure _ rfl rfl (by simp [go_sem, e0, hq])
                    · have e0 := slot_eq (hag 13 rfl)
                      exact rel_pure _ rfl rfl (by simp [go_sem, e0])
                    · have e0 := slot_eq (hdep ⟨2, .data⟩ (by simp) rfl)
                      have e1 := slot_eq (hdep ⟨3, .data⟩ (by simp) rfl)
                      exact rel_pure _ rfl rfl (by simp [go_sem, e0, e1, hmi])
                    · have e0 := slot_eq (hdep ⟨4, .data⟩ (by simp) rfl)
                      exact rel_pure _ rfl rfl (by simp [go_sem, e0])
                    · have e0 := slot_eq (hdep ⟨5, .data⟩ (by simp) rfl)
                      have hq := u1.out _ hE
                      exact rel_pure _ rfl rfl (by simp [go_sem, e0, hq])
                    · have e0 := slot_eq (hdep ⟨6, .data⟩ (by simp) rfl)
                      refine rel_call (f := 41) (args := #[.int .i64 px]) (run_go_call Try.func41 (by kernel_rfl) (by kernel_rfl) _ _ _ _ _ _ _ _ _ _ (by simp [Act.eval, e0])) rfl ?_
                      refine (ref_convW px _ rfl wx).mono ?_
                      rintro e w' ⟨rfl, rfl⟩
                      exact ⟨_, rfl, rfl, Below.refl _ _⟩
                    · have e0 := slot_eq (hag 11 rfl)
                      exact rel_pure _ rfl rfl (by simp [go_sem, e0])
                    · have e0 := slot_eq (hdep ⟨8, .data⟩ (by simp) rfl)
                      have hq := (x11.keep hE).all.1
                      exact rel_pure _ rfl rfl (by simp [go_sem, e0, hq])
                    · have e0 := slot_eq (hag 13 rfl)
                      exact rel_pure _ rfl rfl (by simp [go_sem, e0])
                    · have e0 := slot_eq (hdep ⟨9, .data⟩ (by simp) rfl)
                      have e1 := slot_eq (hdep ⟨10, .data⟩ (by simp) rfl)
                      exact rel_pure _ rfl rfl (by simp [go_sem, e0, e1, hmi])
                    · have e0 := slot_eq (hdep ⟨11, .data⟩ (by simp) rfl)
                      exact rel_pure _ rfl rfl (by simp [go_sem, e0])
                    · have e0 := slot_eq (hdep ⟨12, .data⟩ (by simp) rfl)
                      have hq := v1.out _ hE
                      exact rel_pure _ rfl rfl (by simp [go_sem, e0, hq])
                    · have e0 := slot_eq (hdep ⟨13, .data⟩ (by simp) rfl)
                      refine rel_call (f := 41) (args := #[.int .i64 qx]) (run_go_call Try.func41 (by kernel_rfl) (by kernel_rfl) _ _ _ _ _ _ _ _ _ _ (by simp [Act.eval, e0])) rfl ?_
                      refine (ref_convW qx _ rfl wx).mono ?_
                      rintro e w' ⟨rfl, rfl⟩
                      exact ⟨_, rfl, rfl, Below.refl _ _⟩
                    · have e0 := slot_eq (hdep ⟨0, .data⟩ (by simp) rfl)
                      have e1 := slot_eq (hdep ⟨7, .data⟩ (by simp) rfl)
                      have e2 := slot_eq (hdep ⟨14, .data⟩ (by simp) rfl)
                      refine rel_call (run_go_callv2 (args := #[.float .f32 (floatOfInt .f32 px), .float .f32 (floatOfInt .f32 qx), .pointer (some ⟨p8, 0, none⟩)]) Try.func43 (by kernel_rfl) (by kernel_rfl) _ _ _ _ _ _ _ _ _ _ _ e0 (by simp [Act.eval, e1, e2])) rfl ?_
                      refine (ref_mix hx12.out.1 hx12.out.2 HT.out wx (x8.keep hE)).mono ?_
                      rintro e w' ⟨rfl, rfl⟩
                      exact ⟨_, rfl, rfl, Below.refl _ _⟩
                    · have e0 := slot_eq (hdep ⟨15, .data⟩ (by simp) rfl)
                      refine rel_call (f := 46) (args := #[.float .f32 (lerpV (floatOfInt .f32 px) (floatOfInt .f32 qx) T), .int .i64 (-1048576), .int .i64 1048576]) (run_go_call Try.func46 (by kernel_rfl) (by kernel_rfl) _ _ _ _ _ _ _ _ _ _ (by simp [Act.eval, e0])) rfl ?_
                      refine (ref_NearOf (lerpV_nn hx12.out.1 hx12.out.2 HT.out) wx).mono ?_
                      rintro e w' ⟨bq, rfl, rfl⟩
                      exact ⟨_, rfl, ⟨bq, rfl⟩, Below.refl _ _⟩
                    · obtain ⟨bq, e0⟩ := hdep ⟨16, .data⟩ (by simp) rfl
                      have e0 := slot_eq e0
                      exact rel_pure _ rfl ⟨bq, rfl⟩ (by simp [go_sem, e0])
                    · obtain ⟨bq, e0⟩ := hdep ⟨17, .data⟩ (by simp) rfl
                      have e0 := slot_eq e0
                      exact rel_pure _ rfl rfl (by simp [go_sem, e0])
                  · intro t op ht hlt hop a wx hE hdep
                    simp only [Bool.or_eq_true, beq_iff_eq] at hlt
                    rcases (by omega : t = 19) with rfl
                    all_goals simp only [List.getElem?_cons_zero, List.getElem?_cons_succ, Option.some.injEq] at hop
                    all_goals subst hop
                    · obtain ⟨bq, e0⟩ := hdep ⟨17, .data⟩ (by simp) rfl
                      have e0 := slot_eq e0
                      exact ⟨rfl, _, ⟨bq, rfl⟩, fun u => by simp [go_sem, e0]⟩
                  intro vs wy hE hvs _
                  have k18 : vs 18 = .int .i64 (mixI px qx T) := hvs 18 (by omega)
                  obtain ⟨bq, k19⟩ := hvs 19 (by omega)
                  simp only [List.drop_succ_cons, List.drop_zero, putAll, dstAt, List.getElem?_toArray, List.getElem?_cons_zero, List.getElem?_cons_succ, Option.bind_some, Act.put, List.setIfInBounds_toArray, List.set_cons_zero, List.set_cons_succ, k18, k19]
                  clear hvs k18 k19

                  have u2 : Hid (∀ w', Below wy.heap.size wy w' → w'.cell? ⟨ab, ao + m * 2 + 1, none⟩ = some (.int .i64 py)) := Lib.hid fun w' h => u2.out w' (hE.trans (h.mono hE.size))
                  have v2 : Hid (∀ w', Below wy.heap.size wy w' → w'.cell? ⟨bb, bo + m * 2 + 1, none⟩ = some (.int .i64 qy)) := Lib.hid fun w' h => v2.out w' (hE.trans (h.mono hE.size))
                  replace x12 := x12.keep hE
                  replace x10 := x10.keep hE
                  replace x11 := x11.keep hE
                  replace x8 := x8.keep hE
                  replace x4 := x4.keep hE
                  replace hout := hout.below hE
                  replace hsz := Nat.le_trans hsz hE.size
                  have hszB := B.size
                  replace B := B.trans (hE.mono hszB)
                  clear hszB
                  clear hE
                  go_upto_region 22 with fail
                  refine wp_region_late 20 (fun q => q == 19) (fun q u w' => if q = 16 then ∃ bq, u = .tuple #[.int .i64 (mixI py qy T), .bool bq] else if q = 17 then ∃ bq, u = .tuple #[.int .i64 (mixI py qy T), .bool bq] else if q = 19 then ∃ bq, u = .bool bq else u = [.func (.func 43) #[] #[.pointer (some ⟨p8, 0, none⟩)], .pointer (some ⟨p10, 6, none⟩), .slice (some ⟨ab, ao, none⟩) apn apc, .int .i64 (m : Int), .pointer (some ⟨ab, ao + m * 2, none⟩), .pointer (some ⟨ab, ao + m * 2 + 1, none⟩), .int .i64 py, .float .f32 (floatOfInt .f32 py), .pointer (some ⟨p11, 6, none⟩), .slice (some ⟨bb, bo, none⟩) apn bpc, .int .i64 (m : Int), .pointer (some ⟨bb, bo + m * 2, none⟩), .pointer (some ⟨bb, bo + m * 2 + 1, none⟩), .int .i64 qy, .float .f32 (floatOfInt .f32 qy), .float .f32 (lerpV (floatOfInt .f32 py) (floatOfInt .f32 qy) T), undef, undef, .int .i64 (mixI py qy T), undef].getD q undef) (fun _ => false) (fun w' => Below wy.heap.size wy w') (by kernel_rfl) (by kernel_rfl) (fun _ _ _ _ _ h => h)
                    (fun _ _ h e => e.trans (h.mono e.size)) (fun t u a' b' hb h => ?_) (Below.refl _ _).drew ?_ ?_ ?_
                  · exact h
                  · intro t op ht hlt hop
                    simp only [Bool.or_eq_false_iff, beq_eq_false_iff_ne] at hlt
                    rcases (by omega : t = 0 ∨ t = 1 ∨ t = 2 ∨ t = 3 ∨ t = 4 ∨ t = 5 ∨ t = 6 ∨ t = 7 ∨ t = 8 ∨ t = 9 ∨ t = 10 ∨ t = 11 ∨ t = 12 ∨ t = 13 ∨ t = 14 ∨ t = 15 ∨ t = 16 ∨ t = 17 ∨ t = 18) with rfl | rfl | rfl | rfl | rfl | rfl | rfl | rfl | rfl | rfl | rfl | rfl | rfl | rfl | rfl | rfl | rfl | rfl | rfl
                    all_goals simp only [List.getElem?_cons_zero, List.getElem?_cons_succ, Option.some.injEq] at hop
                    all_goals subst hop
                    all_goals intro a wx hE hag hdep
                    · have e0 := slot_eq (hag 9 rfl)
                      exact rel_pure _ rfl rfl (by simp [go_sem, e0])
                    · have e0 := slot_eq (hag 10 rfl)
                      exact rel_pure _ rfl rfl (by simp [go_sem, e0])
                    · have e0 := slot_eq (hdep ⟨1, .data⟩ (by simp) rfl)
                      have hq := (x10.keep hE).all.1
                      exact rel_pure _ rfl rfl (by simp [go_sem, e0, hq])
                    · have e0 := slot_eq (hag 13 rfl)
                      exact rel_pure _ rfl rfl (by simp [go_sem, e0])
                    · have e0 := slot_eq (hdep ⟨2, .data⟩ (by simp) rfl)
                      have e1 := slot_eq (hdep ⟨3, .data⟩ (by simp) rfl)
                      exact rel_pure _ rfl rfl (by simp [go_sem, e0, e1, hmi])
                    · have e0 := slot_eq (hdep ⟨4, .data⟩ (by simp) rfl)
                      exact rel_pure _ rfl rfl (by simp [go_sem, e0])
                    · have e0 := slot_eq (hdep ⟨5, .data⟩ (by simp) rfl)
                      have hq := u2.out _ hE
                      exact rel_pure _ rfl rfl (by simp [go_sem, e0, hq])
                    · have e0 := slot_eq (hdep ⟨6, .data⟩ (by simp) rfl)
                      refine rel_call (f := 41) (args := #[.int .i64 py]) (run_go_call Try.func41 (by kernel_rfl) (by kernel_rfl) _ _ _ _ _ _ _ _ _ _ (by simp [Act.eval, e0])) rfl ?_
                      refine (ref_convW py _ rfl wx).mono ?_
                      rintro e w' ⟨rfl, rfl⟩
                      exact ⟨_, rfl, rfl, Below.refl _ _⟩
                    · have e0 := slot_eq (hag 11 rfl)
                      exact rel_pure _ rfl rfl (by simp [go_sem, e0])
                    · have e0 := slot_eq (hdep ⟨8, .data⟩ (by simp) rfl)
                      have hq := (x11.keep hE).all.1
                      exact rel_pure _ rfl rfl (by simp [go_sem, e0, hq])
                    · have e0 := slot_eq (hag 13 rfl)
                      exact rel_pure _ rfl rfl (by simp [go_sem, e0])
                    · have e0 := slot_eq (hdep ⟨9, .data⟩ (by simp) rfl)
                      have e1 := slot_eq (hdep ⟨10, .data⟩ (by simp) rfl)
                      exact rel_pure _ rfl rfl (by simp [go_sem, e0, e1, hmi])
                    · have e0 := slot_eq (hdep ⟨11, .data⟩ (by simp) rfl)
                      exact rel_pure _ rfl rfl (by simp [go_sem, e0])
                    · have e0 := slot_eq (hdep ⟨12, .data⟩ (by simp) rfl)
                      have hq := v2.out _ hE
                      exact rel_pure _ rfl rfl (by simp [go_sem, e0, hq])
                    · have e0 := slot_eq (hdep ⟨13, .data⟩ (by simp) rfl)
                      refine rel_call (f := 41) (args := #[.int .i64 qy]) (run_go_call Try.func41 (by kernel_rfl) (by kernel_rfl) _ _ _ _ _ _ _ _ _ _ (by simp [Act.eval, e0])) rfl ?_
                      refine (ref_convW qy _ rfl wx).mono ?_
                      rintro e w' ⟨rfl, rfl⟩
                      exact ⟨_, rfl, rfl, Below.refl _ _⟩
                    · have e0 := slot_eq (hdep ⟨0, .data⟩ (by simp) rfl)
                      have e1 := slot_eq (hdep ⟨7, .data⟩ (by simp) rfl)
                      have e2 := slot_eq (hdep ⟨14, .data⟩ (by simp) rfl)
                      refine rel_call (run_go_callv2 (args := #[.float .f32 (floatOfInt .f32 py), .float .f32 (floatOfInt .f32 qy), .pointer (some ⟨p8, 0, none⟩)]) Try.func43 (by kernel_rfl) (by kernel_rfl) _ _ _ _ _ _ _ _ _ _ _ e0 (by simp [Act.eval, e1, e2])) rfl ?_
                      refine (ref_mix hy12.out.1 hy12.out.2 HT.out wx (x8.keep hE)).mono ?_
                      rintro e w' ⟨rfl, rfl⟩
                      exact ⟨_, rfl, rfl, Below.refl _ _⟩
                    · have e0 := slot_eq (hdep ⟨15, .data⟩ (by simp) rfl)
                      refine rel_call (f := 46) (args := #[.float .f32 (lerpV (floatOfInt .f32 py) (floatOfInt .f32 qy) T), .int .i64 (-1048576), .int .i64 1048576]) (run_go_call Try.func46 (by kernel_rfl) (by kernel_rfl) _ _ _ _ _ _ _ _ _ _ (by simp [Act.eval, e0])) rfl ?_
                      refine (ref_NearOf (lerpV_nn hy12.out.1 hy12.out.2 HT.out) wx).mono ?_
                      rintro e w' ⟨bq, rfl, rfl⟩
                      exact ⟨_, rfl, ⟨bq, rfl⟩, Below.refl _ _⟩
                    · obtain ⟨bq, e0⟩ := hdep ⟨16, .data⟩ (by simp) rfl
                      have e0 := slot_eq e0
                      exact rel_pure _ rfl ⟨bq, rfl⟩ (by simp [go_sem, e0])
                    · obtain ⟨bq, e0⟩ := hdep ⟨17, .data⟩ (by simp) rfl
                      have e0 := slot_eq e0
                      exact rel_pure _ rfl rfl (by simp [go_sem, e0])
                  · intro t op ht hlt hop a wx hE hdep
                    simp only [Bool.or_eq_true, beq_iff_eq] at hlt
                    rcases (by omega : t = 19) with rfl
                    all_goals simp only [List.getElem?_cons_zero, List.getElem?_cons_succ, Option.some.injEq] at hop
                    all_goals subst hop
                    · obtain ⟨bq, e0⟩ := hdep ⟨17, .data⟩ (by simp) rfl
                      have e0 := slot_eq e0
                      exact ⟨rfl, _, ⟨bq, rfl⟩, fun u => by simp [go_sem, e0]⟩
                  intro vs wz hE hvs _
                  have k18 : vs 18 = .int .i64 (mixI py qy T) := hvs 18 (by omega)
                  obtain ⟨bq, k19⟩ := hvs 19 (by omega)
                  simp only [List.drop_succ_cons, List.drop_zero, putAll, dstAt, List.getElem?_toArray, List.getElem?_cons_zero, List.getElem?_cons_succ, Option.bind_some, Act.put, List.setIfInBounds_toArray, List.set_cons_zero, List.set_cons_succ, k18, k19]
                  clear hvs k18 k19

                  replace x12 := x12.keep hE
                  replace x10 := x10.keep hE
                  replace x11 := x11.keep hE
                  replace x8 := x8.keep hE
                  replace x4 := x4.keep hE
                  replace hout := hout.below hE
                  replace hsz := Nat.le_trans hsz hE.size
                  have hszB := B.size
                  replace B := B.trans (hE.mono hszB)
                  clear hszB
                  clear hE u1 v1 u2 v2
                  obtain ⟨q12, f12, l12⟩ := x12.all
                  go_upto_region 23 with fail
                  go_wp2_with (at_builtin; refine pt_append (B := p12 + 1) (x := mixI px qx T) (y := mixI py qy T) rfl (.tmp 169) (.tmp 173) rfl rfl wz.heap.size 1 rfl (hout.below (below_eqK rfl)) (Bx.new wz 71 #[.int .i64 (mixI px qx T), .int .i64 (mixI py qy T)]) ?e1 ?e2 ?e3)
                  case e1 => exact hLl
                  case e2 => simp; omega
                  intro v5 w7 ho5 hb5
                  have hbx := hb5 (p12 + 1) wz (Nat.le_refl _) ((below_eqK rfl).mono hsz)
                  replace B := hb5 _ _ (by omega) (bnew B)
                  have hsz7 : p12 + 1 ≤ w7.heap.size := Nat.le_trans hsz hbx.size
                  replace x12 := x12.keepAt hbx (by omega)
                  replace x10 := x10.keepAt hbx (by omega)
                  replace x11 := x11.keepAt hbx (by omega)
                  replace x8 := x8.keepAt hbx (by omega)
                  replace x4 := x4.keepAt hbx (by omega)
                  obtain ⟨a5, c5, rfl⟩ := ho5.form
                  rw [← Hst.out] at ho5 ⊢
                  obtain ⟨N5, hN5⟩ : ∃ N5, N5 = ((mixP aps bps T).take (m + 1)).length := ⟨_, rfl⟩
                  rw [← hN5] at ho5 ⊢
                  have HO5 := Lib.hid ho5
                  clear hb5 hbx q12 f12 l12 hsz hN5 ho5
                  obtain ⟨q12, f12, l12⟩ := x12.all
                  go_wp2_with fail
                  go_roundw
                  case rel => exact ⟨m + 1, _, by omega, by go_num, HO5.out.put (by omega), Bx.set x12 6 _, (Bx.other x8 _ _ (by first | omega | (simp; done) | (simp; omega))), (Bx.other x10 _ _ (by first | omega | (simp; done) | (simp; omega))), (Bx.other x11 _ _ (by first | omega | (simp; done) | (simp; omega))), (Bx.other x4 _ _ (by first | omega | (simp; done) | (simp; omega))), bput (by omega) B, by simpa using hsz7⟩
                  case measure => simp [intOf]; omega
                · obtain rfl : m = apn := by omega
                  rw [List.take_of_length_le (by rw [mixP_len, ← Hapn.out]; exact Nat.le_refl _)] at hout
                  obtain ⟨va, vc, rfl⟩ := hout.form
                  obtain ⟨N2, hN2⟩ : ∃ N2, N2 = (mixP aps bps T).length := ⟨_, rfl⟩
                  rw [← hN2] at hout x12
                  have HN2 := Lib.hid hN2
                  have HO := Lib.hid hout
                  clear hN2 hout
                  obtain ⟨q12, f12, l12⟩ := x12.all
                  obtain ⟨q4, f4, l4⟩ := x4.all
                  go_wp2_with fail
                  refine bodyPost_ret (v := .agg #[.int .i64 akind, .float .f32 (lerpV aX bX T), .float .f32 (lerpV aY bY T), .float .f32 (lerpV aWd bWd T), .float .f32 (lerpV aH bH T), .float .f32 (lerpV aS bS T), .slice va N2 vc, .bool aout]) (by simp [results, Try.results14, go_sem, q4]) rfl ⟨_, Hidx.out, va, vc, by rw [Hwin.out, HN2.out]; rfl, ?_, bput (by omega) (bput (by omega) (bput (by omega) (bput (by omega) (bput (by omega) (bput (by omega) (bput (by omega) (bput (by omega) (B))))))))⟩
                  rw [Hwin.out]
                  show SlP _ (.slice va (mixP aps bps T).length vc) (mixP aps bps T)
                  rw [← HN2.out]
                  exact OutP.slP (B := p12 + 1) ((OutP.put (OutP.put (OutP.put (OutP.put (OutP.put (OutP.put (OutP.put (OutP.put HO.out (by omega)) (by omega)) (by omega)) (by omega)) (by omega)) (by omega)) (by omega)) (by omega))) (by rw [mixP_len, ← Hapn.out]; unfold maxLen; omega)

  · rw [if_neg hin]
    obtain rfl : i = n := by omega
    obtain ⟨j, hj⟩ : ∃ j, i = j + 1 := ⟨i - 1, by omega⟩
    have Hwin : Hid (winOf ks f i = (ks.getD j default).wi) := Lib.hid (by rw [winOf_one (by omega) (.inl Hn.out), show i - 1 = j by omega])
    have hji : (i : Int) - 1 = (j : Int) := by omega
    have hjn : (j : Int) < (i : Int) := by omega
    have Hj := Lib.hid hj
    clear hj
    obtain ⟨a0, a1, a2, a3, a4, a5, a6, a7, a8, a9⟩ := (Hat.out (j) (by omega)).keep B hbl
    obtain ⟨ab0, ab1, ae0, ae1, aw, ao, ak, au, al⟩ := Hok.out (j) (by omega)
    have asp := Hpts.out (j) (by omega)
    unfold Kf.pv at a8 asp
    unfold Kf.win at aw
    have al2 := (win_smb aw).2.2.2.2.2.1
    clear aw al ao ak au ab0 ab1 ae0 ae1 al2
    unfold Kf.wi at Hwin
    generalize (ks.getD j default).fr = afr at *
    generalize (ks.getD j default).ease = aease at *
    generalize (ks.getD j default).kind = akind at *
    generalize (ks.getD j default).X = aX at *
    generalize (ks.getD j default).Y = aY at *
    generalize (ks.getD j default).Wd = aWd at *
    generalize (ks.getD j default).H = aH at *
    generalize (ks.getD j default).S = aS at *
    generalize (ks.getD j default).pa = apa at *
    generalize (ks.getD j default).pc = apc at *
    generalize (ks.getD j default).ps = aps at *
    generalize (ks.getD j default).out = aout at *
    obtain ⟨apn, hapn⟩ : ∃ z, z = aps.length := ⟨_, rfl⟩
    rw [← hapn] at a8 asp
    have Hasp := Lib.hid asp
    have Hapn := Lib.hid hapn
    clear asp hapn
    obtain ⟨q4, f4, l4⟩ := x4.all
    go_wp2_with fail
    refine bodyPost_ret (v := .agg #[.int .i64 akind, .float .f32 aX, .float .f32 aY, .float .f32 aWd, .float .f32 aH, .float .f32 aS, .slice apa apn apc, .bool aout]) (by simp [results, Try.results14, go_sem, q4]) rfl ⟨_, Hidx.out, apa, apc, by rw [Hwin.out, Hapn.out]; rfl, ?_, bput (by omega) (bput (by omega) (bput (by omega) (bput (by omega) (bput (by omega) (bput (by omega) (bput (by omega) (bput (by omega) (B))))))))⟩
    rw [Hwin.out]
    show SlP _ (.slice apa aps.length apc) aps
    rw [← Hapn.out]
    exact Hasp.out.keep (bput (by omega) (bput (by omega) (bput (by omega) (bput (by omega) (bput (by omega) (bput (by omega) (bput (by omega) (bput (by omega) (B)))))))))
end Go.Proofs.Ytfkiljhjiogdlaa
