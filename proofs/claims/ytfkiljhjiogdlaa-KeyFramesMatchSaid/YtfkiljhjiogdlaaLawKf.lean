/- KeyFramesMatch, walked. (printed by gen_lawkf.py) -/
import Derived.Test.YtfkiljhjiogdlaaKfM
import Derived.Test.YtfkiljhjiogdlaaGrd
namespace Go.Proofs.Ytfkiljhjiogdlaa
open Go.RowKit

set_option maxRecDepth 100000 in
set_option maxHeartbeats 16000000 in
theorem law_KeyFrames (la : Option Addr) (n c : Nat) (ks : List Kf) (f dx dy : Int) (W : World) (hs : SlK W (.slice la n c) ks) (hc : n ≤ c ∧ c ≤ maxLen) :
    Calls Try.prog 4 #[.slice la n c, .int .i64 f, .int .i64 dx, .int .i64 dy] W fun e w' => e = .returned (.bool true) ∧ Below W.heap.size W w' := by
  obtain ⟨hnc, hcm⟩ := hc
  unfold maxLen at hcm
  have HS := Lib.hid hs
  have Hn : Hid (n = ks.length) := Lib.hid (by obtain ⟨a1, c1, h1, _⟩ := hs; injection h1)
  have hat : Hid (0 < n → ∃ b o, la = some ⟨b, o, none⟩ ∧ b < W.heap.size ∧ ∀ k, k < n → KfAt W b (o + k * 10) (ks.getD k default)) := Lib.hid fun h0 => by
    obtain ⟨a1, c1, h1, _, h2, _⟩ := hs
    rcases h2 with h2 | ⟨b, o, h3, h4, h5⟩
    · exfalso; have := Hn.out; rw [h2] at this; simp at this; omega
    · injection h1 with h1
      rw [← Hn.out] at h5
      exact ⟨b, o, h1.trans h3, h4, h5⟩
  have Hpts : Hid (∀ k, k < n → SlP W (ks.getD k default).pv (ks.getD k default).ps) := Lib.hid fun k hk => by obtain ⟨a1, c1, h1, _, h2, h3⟩ := hs; exact h3 k (by rw [← Hn.out]; exact hk)
  have HF := Lib.hid (fun w (h : SlK w (.slice la n c) ks) => ref_FramesError _ ks w h)
  have HCh := Lib.hid (fun w (h : SlK w (.slice la n c) ks) => key_CheckFrames _ ks w h)
  clear hs
  by_cases h0 : kfsErr ks = 0
  · have HB := Lib.hid (fun w (h : SlK w (.slice la n c) ks) => key_BetweenR _ ks f w h h0)
    have HR := Lib.hid (fun w (h : SlK w (.slice la n c) ks) => ref_BetweenR _ ks f w h h0)
    have HA := Lib.hid (fun k (hk : k < ks.length) w (h : SlK w (.slice la n c) ks) => key_Between_at _ ks k hk w h h0)
    rw [h0] at HF HCh
    obtain ⟨K, hK⟩ : ∃ K, K = btw ks f := ⟨_, rfl⟩
    rw [← hK] at HB HR
    clear hK h0
    obtain ⟨bkind, bX, bY, bWd, bH, bS, bps, bout⟩ := K
    unfold Wi.val at HB HR
    go_enter Try.func4, Try.ntmps4
    go_wp2_with fail
    refine (law_landed _).mono ?_
    rintro e w0 ⟨rfl, rfl⟩
    have B : Below W.heap.size W W := Below.refl _ W
    go_wp2_with fail
    refine (HF.out _ HS.out).mono ?_
    rintro e w1 ⟨rfl, hb⟩
    replace B := bcall B hb
    clear hb
    go_wp2_with fail
    refine (HB.out _ (HS.out.keep B)).mono ?_
    rintro e w2 ⟨⟨pa, pc, rfl, hsp⟩, hb⟩
    replace B := bcall B hb
    have Hs2 := Lib.hid hsp
    clear hb hsp
    go_upto_region 5 with fail
    refine name_world ?_
    intro w3 hw3
    have x10 : Bx w3 w2.heap.size 25 #[.int .i64 bkind, .float .f32 bX, .float .f32 bY, .float .f32 bWd, .float .f32 bH, .float .f32 bS, .slice pa bps.length pc, .bool bout] := by rw [hw3]; exact Bx.new _ _ _
    have hbb : Below w2.heap.size w2 w3 := below_eqK hw3
    have Hs3 := Lib.hid (Hs2.out.keep hbb)
    replace B := bcall B hbb
    clear hw3 hbb Hs2
    generalize bps.length = bn at *
    go_wp2_with fail
    refine (HCh.out _ (HS.out.keep B)).mono ?_
    rintro e w4 ⟨rfl, hb⟩
    have Hs4 := Lib.hid (Hs3.out.keep hb)
    replace x10 := x10.keep hb
    replace B := bcall B hb
    clear hb
    clear Hs3
    have hsz := B.size
    go_upto_region 10 with fail
    refine wp_region_grd 5 (fun _ => false) (fun q u w' => if q = 3 then ∃ p2 c2, u = .agg #[.int .i64 bkind, .float .f32 bX, .float .f32 bY, .float .f32 bWd, .float .f32 bH, .float .f32 bS, .slice p2 bn c2, .bool bout] ∧ SlP w' (.slice p2 bn c2) bps else u = [.agg #[.int .i64 bkind, .float .f32 bX, .float .f32 bY, .float .f32 bWd, .float .f32 bH, .float .f32 bS, .slice pa bn pc, .bool bout], .slice la n c, .int .i64 f, undef, .bool true].getD q undef) (fun _ => false) (fun w' => Below w4.heap.size w4 w') (by kernel_rfl) (by kernel_rfl) (fun _ _ _ _ _ h => h)
      (fun _ _ h e => e.trans (h.mono e.size)) (fun t u a' b' hb h => ?_) (Below.refl _ _).drew ?_ ?_ ?_
    · split
      · rename_i h4
        rw [if_pos h4] at h
        obtain ⟨p2, c2, e1, e2⟩ := h
        exact ⟨p2, c2, e1, e2.keep hb⟩
      · rename_i h4
        rw [if_neg h4] at h
        exact h
    · intro t op ht hlt hop
      clear hlt
      rcases (by omega : t = 0 ∨ t = 1 ∨ t = 2 ∨ t = 3 ∨ t = 4) with rfl | rfl | rfl | rfl | rfl
      all_goals simp only [List.getElem?_cons_zero, List.getElem?_cons_succ, Option.some.injEq] at hop
      all_goals subst hop
      all_goals intro a wx hE hag hdep
      · refine grd_none rfl ?_
        have e0 := slot_eq (hag 10 rfl)
        have hq := (x10.keep hE).all.1
        exact rel_pure _ rfl rfl (by simp [go_sem, e0, hq])
      · refine grd_none rfl ?_
        have e0 := slot_eq (hag 0 rfl)
        exact rel_pure _ rfl rfl (by simp [go_sem, e0])
      · refine grd_none rfl ?_
        have e0 := slot_eq (hag 1 rfl)
        exact rel_pure _ rfl rfl (by simp [go_sem, e0])
      · refine grd_none rfl ?_
        have e0 := slot_eq (hdep ⟨1, .data⟩ (by simp) rfl)
        have e1 := slot_eq (hdep ⟨2, .data⟩ (by simp) rfl)
        refine rel_call (f := 14) (args := #[.slice la n c, .int .i64 f]) (run_go_call Try.func14 (by kernel_rfl) (by kernel_rfl) _ _ _ _ _ _ _ _ _ _ (by simp [Act.eval, e0, e1])) rfl ?_
        refine (HR.out wx (HS.out.keep (B.trans (hE.mono hsz)))).mono ?_
        rintro e w' ⟨⟨p2, c2, rfl, hs2⟩, hbx⟩
        exact ⟨_, rfl, ⟨p2, c2, rfl, hs2⟩, hbx⟩
      · refine grd_none rfl ?_
        have e0 := slot_eq (hdep ⟨0, .data⟩ (by simp) rfl)
        obtain ⟨p2, c2, e1, hs2⟩ := hdep ⟨3, .data⟩ (by simp) rfl
        have e1 := slot_eq e1
        refine rel_call (f := 13) (args := #[.agg #[.int .i64 bkind, .float .f32 bX, .float .f32 bY, .float .f32 bWd, .float .f32 bH, .float .f32 bS, .slice pa bn pc, .bool bout], .agg #[.int .i64 bkind, .float .f32 bX, .float .f32 bY, .float .f32 bWd, .float .f32 bH, .float .f32 bS, .slice p2 bn c2, .bool bout]]) (run_go_call Try.func13 (by kernel_rfl) (by kernel_rfl) _ _ _ _ _ _ _ _ _ _ (by simp [Act.eval, e0, e1])) rfl ?_
        refine (law_same bkind bX bY bWd bH bS bout _ _ bps wx (Hs4.out.keep hE) hs2).mono ?_
        rintro e w' ⟨rfl, hbx⟩
        exact ⟨_, rfl, rfl, hbx⟩
    · intro t op ht hlt; cases hlt
    intro vs wy hE hvs _
    have k4 : vs 4 = .bool true := hvs 4 (by omega)
    simp only [List.drop_succ_cons, List.drop_zero, putAll, dstAt, List.getElem?_toArray, List.getElem?_cons_zero, List.getElem?_cons_succ, Option.bind_some, Act.put, List.setIfInBounds_toArray, List.set_cons_zero, List.set_cons_succ, k4]
    clear hvs k4 x10 Hs4
    replace B := B.trans (hE.mono hsz)
    clear hE hsz
    go_wp2_with fail
    go_loopw [55] (fun i wr => ∃ m : Nat, m ≤ n ∧ i = .int .i64 (m : Int) ∧ Below W.heap.size W wr) (fun i _ => n - (intOf i).toNat)
    case atStart => exact ⟨0, by omega, rfl, B⟩
    case round =>
      clear B
      obtain ⟨m, hm, rfl, B⟩ := hrel
      by_cases hlt : m < n
      · have hmi : (m : Int) < (n : Int) := by omega
        have HAm := Lib.hid (HA.out m (by rw [← Hn.out]; exact hlt))
        unfold Kf.wi Wi.val at HAm
        obtain ⟨b, o, rfl, hbl, hat1⟩ := hat.out (by omega)
        obtain ⟨c0, c1, c2, c3, c4, c5, c6, c7, c8, c9⟩ := (hat1 m (by omega)).keep B hbl
        have Hsp := Hpts.out m (by omega)
        unfold Kf.pv at c8 Hsp
        clear hat1
        generalize (ks.getD m default).fr = kfr at *
        generalize (ks.getD m default).ease = kease at *
        generalize (ks.getD m default).kind = kkind at *
        generalize (ks.getD m default).X = kX at *
        generalize (ks.getD m default).Y = kY at *
        generalize (ks.getD m default).Wd = kWd at *
        generalize (ks.getD m default).H = kH at *
        generalize (ks.getD m default).S = kS at *
        generalize (ks.getD m default).pa = kpa at *
        generalize (ks.getD m default).pc = kpc at *
        generalize (ks.getD m default).ps = kps at *
        generalize kps.length = kpn at *
        generalize (ks.getD m default).out = kout at *
        have HSp := Lib.hid Hsp
        clear Hsp HA HF HCh HB HR
        go_upto_region 15 with fail
        refine name_world ?_
        intro w5 hw5
        have x13 : Bx w5 wr.heap.size 44 #[.int .i64 kfr, .int .i64 kease, .int .i64 kkind, .float .f32 kX, .float .f32 kY, .float .f32 kWd, .float .f32 kH, .float .f32 kS, .slice kpa kpn kpc, .bool kout] := by rw [hw5]; exact Bx.new _ _ _
        have hbb : Below wr.heap.size wr w5 := below_eqK hw5
        replace B := bcall B hbb
        clear hbb hw5
        obtain ⟨q13, f13, l13⟩ := x13.all
        clear c0 c1 c2 c3 c4 c5 c6 c7 c8 c9
        go_wp2_with fail
        refine (HAm.out _ (HS.out.keep B)).mono ?_
        rintro e w6 ⟨⟨pa, pc, rfl, hsp⟩, hb⟩
        have Hs2 := Lib.hid hsp
        clear hsp HAm
        replace x13 := x13.keep hb
        replace B := bcall B hb
        clear hb
        clear q13 f13 l13
        go_upto_region 16 with fail
        refine name_world ?_
        intro w7 hw7
        have x14 : Bx w7 w6.heap.size 25 #[.int .i64 kkind, .float .f32 kX, .float .f32 kY, .float .f32 kWd, .float .f32 kH, .float .f32 kS, .slice pa kpn pc, .bool kout] := by rw [hw7]; exact Bx.new _ _ _
        have hbb : Below w6.heap.size w6 w7 := below_eqK hw7
        have Hs3 := Lib.hid (Hs2.out.keep hbb)
        replace x13 := x13.keep hbb
        replace B := bcall B hbb
        clear hbb hw7 Hs2
        obtain ⟨q13, f13, l13⟩ := x13.all
        obtain ⟨q14, f14, l14⟩ := x14.all
        go_wp2_with fail
        refine (law_same kkind kX kY kWd kH kS kout _ _ kps _ Hs3.out (HSp.out.keep B)).mono ?_
        rintro e w8 ⟨rfl, hb⟩
        replace B := bcall B hb
        clear hb Hs3 HSp x13 x14
        clear q13 f13 l13 q14 f14 l14
        go_wp2_with fail
        go_roundw
        case rel => exact ⟨m + 1, by omega, by go_num, B⟩
        case measure => simp [intOf]; omega
      · obtain rfl : m = n := by omega
        clear HA HF HCh HB HR
        go_upto_region 19 with fail
        obtain ⟨M, hM1, hM2, hM3⟩ : ∃ M : Nat, imin (m : Int) 3 = (M : Int) ∧ M ≤ m ∧ M ≤ 3 := by
          rcases imin_spec (m : Int) 3 with ⟨h1, h2⟩ | ⟨h1, h2⟩
          · exact ⟨m, h1, by omega, by omega⟩
          · exact ⟨3, h1, by omega, by omega⟩
        have hMc : (M : Int) ≤ (c : Int) := by omega
        go_wp2_with fail
        clear hM1
        go_loopw [82] (fun i wr => ∃ m : Nat, m ≤ M ∧ i = .int .i64 (m : Int) ∧ Below W.heap.size W wr) (fun i _ => M - (intOf i).toNat)
        case atStart => exact ⟨0, by omega, rfl, B⟩
        case round =>
          clear B
          obtain ⟨m, hm, rfl, B⟩ := hrel
          by_cases hlt : m < M
          · have hmi : (m : Int) < (M : Int) := by omega
            have HK := Lib.hid (fun w h => key_MovedR (ks.getD m default) dx dy w h)
            have HM := Lib.hid (fun w h => ref_MovedR (ks.getD m default) dx dy w h)
            unfold Kf.agg Kf.pv at HK HM
            obtain ⟨Kv, hKv⟩ : ∃ Kv, Kv = movW (ks.getD m default) dx dy := ⟨_, rfl⟩
            rw [← hKv] at HK HM
            clear hKv
            obtain ⟨mkind, mX, mY, mWd, mH, mS, mps, mout⟩ := Kv
            unfold Wi.val at HK HM
            generalize movErr (ks.getD m default).kind (ks.getD m default).X (ks.getD m default).Y (ks.getD m default).Wd (ks.getD m default).H (ks.getD m default).S (ks.getD m default).ps dx dy = er at *
            obtain ⟨b, o, rfl, hbl, hat1⟩ := hat.out (by omega)
            obtain ⟨c0, c1, c2, c3, c4, c5, c6, c7, c8, c9⟩ := (hat1 m (by omega)).keep B hbl
            have Hsp := Hpts.out m (by omega)
            unfold Kf.pv at c8 Hsp
            clear hat1
            generalize (ks.getD m default).fr = kfr at *
            generalize (ks.getD m default).ease = kease at *
            generalize (ks.getD m default).kind = kkind at *
            generalize (ks.getD m default).X = kX at *
            generalize (ks.getD m default).Y = kY at *
            generalize (ks.getD m default).Wd = kWd at *
            generalize (ks.getD m default).H = kH at *
            generalize (ks.getD m default).S = kS at *
            generalize (ks.getD m default).pa = kpa at *
            generalize (ks.getD m default).pc = kpc at *
            generalize (ks.getD m default).ps = kps at *
            generalize kps.length = kpn at *
            generalize (ks.getD m default).out = kout at *
            generalize mps.length = mn at *
            have HSp := Lib.hid Hsp
            have eer : (er != er) = false := bne_self_eq_false _
            clear Hsp
            go_upto_region 22 with fail
            refine name_world ?_
            intro w5 hw5
            have x17 : Bx w5 wr.heap.size 44 #[.int .i64 kfr, .int .i64 kease, .int .i64 kkind, .float .f32 kX, .float .f32 kY, .float .f32 kWd, .float .f32 kH, .float .f32 kS, .slice kpa kpn kpc, .bool kout] := by rw [hw5]; exact Bx.new _ _ _
            have hbb : Below wr.heap.size wr w5 := below_eqK hw5
            replace B := bcall B hbb
            clear hbb hw5
            obtain ⟨q17, f17, l17⟩ := x17.all
            clear c0 c1 c2 c3 c4 c5 c6 c7 c8 c9
            go_wp2_with fail
            refine (HK.out _ (HSp.out.keep B)).mono ?_
            rintro e w6 ⟨⟨pa, pc, rfl, hsp⟩, hb⟩
            have Hs2 := Lib.hid hsp
            replace x17 := x17.keep hb
            replace B := bcall B hb
            clear hb hsp HK
            clear q17 f17 l17
            go_upto_region 23 with fail
            refine name_world ?_
            intro w7 hw7
            have x18 : Bx w7 w6.heap.size 25 #[.int .i64 mkind, .float .f32 mX, .float .f32 mY, .float .f32 mWd, .float .f32 mH, .float .f32 mS, .slice pa mn pc, .bool mout] := by rw [hw7]; exact Bx.new _ _ _
            have hbb : Below w6.heap.size w6 w7 := below_eqK hw7
            have Hs3 := Lib.hid (Hs2.out.keep hbb)
            replace x17 := x17.keep hbb
            replace B := bcall B hbb
            clear hbb hw7 Hs2
            obtain ⟨q17, f17, l17⟩ := x17.all
            go_wp2_with fail
            refine (HM.out _ (HSp.out.keep B)).mono ?_
            rintro e w8 ⟨⟨pa2, pc2, rfl, hsp⟩, hb⟩
            have Hr2 := Lib.hid hsp
            have Hs4 := Lib.hid (Hs3.out.keep hb)
            replace x18 := x18.keep hb
            replace B := bcall B hb
            clear hb hsp HM x17 HSp Hs3
            clear q17 f17 l17
            go_upto_region 24 with fail
            refine name_world ?_
            intro w9 hw9
            have x20 : Bx w9 w8.heap.size 25 #[.int .i64 mkind, .float .f32 mX, .float .f32 mY, .float .f32 mWd, .float .f32 mH, .float .f32 mS, .slice pa2 mn pc2, .bool mout] := by rw [hw9]; exact Bx.new _ _ _
            have hbb : Below w8.heap.size w8 w9 := below_eqK hw9
            have Hs5 := Lib.hid (Hs4.out.keep hbb)
            have Hr3 := Lib.hid (Hr2.out.keep hbb)
            replace x18 := x18.keep hbb
            replace B := bcall B hbb
            clear hbb hw9 Hs4 Hr2
            obtain ⟨q18, f18, l18⟩ := x18.all
            obtain ⟨q20, f20, l20⟩ := x20.all
            go_wp2_with fail
            refine (law_same mkind mX mY mWd mH mS mout _ _ mps _ Hs5.out Hr3.out).mono ?_
            rintro e wa ⟨rfl, hb⟩
            replace B := bcall B hb
            clear hb Hs5 Hr3 x18 x20
            clear q18 f18 l18 q20 f20 l20
            go_wp2_with fail
            go_roundw
            case rel => exact ⟨m + 1, by omega, by go_num, B⟩
            case measure => simp [intOf]; omega
          · obtain rfl : m = M := by omega
            go_wp2_with fail
            go_ret
            exact ⟨rfl, B⟩

  · have HB := Lib.hid (fun w (h : SlK w (.slice la n c) ks) => key_Between_err _ ks f w h h0)
    have ene : (kfsErr ks != 0) = true := by simpa using h0
    have eee : (kfsErr ks != kfsErr ks) = false := bne_self_eq_false _
    generalize kfsErr ks = er at *
    clear h0
    go_enter Try.func4, Try.ntmps4
    go_wp2_with fail
    refine (law_landed _).mono ?_
    rintro e w0 ⟨rfl, rfl⟩
    have B : Below W.heap.size W W := Below.refl _ W
    go_wp2_with fail
    refine (HF.out _ HS.out).mono ?_
    rintro e w1 ⟨rfl, hb⟩
    replace B := bcall B hb
    clear hb
    go_wp2_with fail
    refine (HB.out _ (HS.out.keep B)).mono ?_
    rintro e w2 ⟨rfl, hb⟩
    replace B := bcall B hb
    clear hb
    go_upto_region 5 with fail
    refine name_world ?_
    intro w3 hw3
    have x10 : Bx w3 w2.heap.size 25 #[.int .i64 0, .float .f32 0, .float .f32 0, .float .f32 0, .float .f32 0, .float .f32 0, .slice none 0 0, .bool false] := by rw [hw3]; exact Bx.new _ _ _
    replace B : Below W.heap.size W w3 := by rw [hw3]; exact bnew B
    clear hw3
    go_wp2_with fail
    refine (HCh.out _ (HS.out.keep B)).mono ?_
    rintro e w4 ⟨rfl, hb⟩
    replace x10 := x10.keep hb
    replace B := bcall B hb
    clear hb
    obtain ⟨q10, f10, l10⟩ := x10.all
    go_wp2_with fail
    have hz : SlP w4 (.slice none 0 0) [] := ⟨none, 0, rfl, Nat.zero_le _, .inl rfl⟩
    refine (law_same 0 0 0 0 0 0 false _ _ [] _ hz hz).mono ?_
    rintro e w5 ⟨rfl, hb⟩
    replace B := bcall B hb
    clear hb q10 f10 l10 x10 hz HB HF HCh
    go_upto_region 19 with fail
    obtain ⟨M, hM1, hM2, hM3⟩ : ∃ M : Nat, imin (n : Int) 3 = (M : Int) ∧ M ≤ n ∧ M ≤ 3 := by
      rcases imin_spec (n : Int) 3 with ⟨h1, h2⟩ | ⟨h1, h2⟩
      · exact ⟨n, h1, by omega, by omega⟩
      · exact ⟨3, h1, by omega, by omega⟩
    have hMc : (M : Int) ≤ (c : Int) := by omega
    go_wp2_with fail
    clear hM1
    go_loopw [82] (fun i wr => ∃ m : Nat, m ≤ M ∧ i = .int .i64 (m : Int) ∧ Below W.heap.size W wr) (fun i _ => M - (intOf i).toNat)
    case atStart => exact ⟨0, by omega, rfl, B⟩
    case round =>
      clear B
      obtain ⟨m, hm, rfl, B⟩ := hrel
      by_cases hlt : m < M
      · have hmi : (m : Int) < (M : Int) := by omega
        have HK := Lib.hid (fun w h => key_MovedR (ks.getD m default) dx dy w h)
        have HM := Lib.hid (fun w h => ref_MovedR (ks.getD m default) dx dy w h)
        unfold Kf.agg Kf.pv at HK HM
        obtain ⟨Kv, hKv⟩ : ∃ Kv, Kv = movW (ks.getD m default) dx dy := ⟨_, rfl⟩
        rw [← hKv] at HK HM
        clear hKv
        obtain ⟨mkind, mX, mY, mWd, mH, mS, mps, mout⟩ := Kv
        unfold Wi.val at HK HM
        generalize movErr (ks.getD m default).kind (ks.getD m default).X (ks.getD m default).Y (ks.getD m default).Wd (ks.getD m default).H (ks.getD m default).S (ks.getD m default).ps dx dy = er at *
        obtain ⟨b, o, rfl, hbl, hat1⟩ := hat.out (by omega)
        obtain ⟨c0, c1, c2, c3, c4, c5, c6, c7, c8, c9⟩ := (hat1 m (by omega)).keep B hbl
        have Hsp := Hpts.out m (by omega)
        unfold Kf.pv at c8 Hsp
        clear hat1
        generalize (ks.getD m default).fr = kfr at *
        generalize (ks.getD m default).ease = kease at *
        generalize (ks.getD m default).kind = kkind at *
        generalize (ks.getD m default).X = kX at *
        generalize (ks.getD m default).Y = kY at *
        generalize (ks.getD m default).Wd = kWd at *
        generalize (ks.getD m default).H = kH at *
        generalize (ks.getD m default).S = kS at *
        generalize (ks.getD m default).pa = kpa at *
        generalize (ks.getD m default).pc = kpc at *
        generalize (ks.getD m default).ps = kps at *
        generalize kps.length = kpn at *
        generalize (ks.getD m default).out = kout at *
        generalize mps.length = mn at *
        have HSp := Lib.hid Hsp
        have eer : (er != er) = false := bne_self_eq_false _
        clear Hsp
        go_upto_region 22 with fail
        refine name_world ?_
        intro w5 hw5
        have x17 : Bx w5 wr.heap.size 44 #[.int .i64 kfr, .int .i64 kease, .int .i64 kkind, .float .f32 kX, .float .f32 kY, .float .f32 kWd, .float .f32 kH, .float .f32 kS, .slice kpa kpn kpc, .bool kout] := by rw [hw5]; exact Bx.new _ _ _
        have hbb : Below wr.heap.size wr w5 := below_eqK hw5
        replace B := bcall B hbb
        clear hbb hw5
        obtain ⟨q17, f17, l17⟩ := x17.all
        clear c0 c1 c2 c3 c4 c5 c6 c7 c8 c9
        go_wp2_with fail
        refine (HK.out _ (HSp.out.keep B)).mono ?_
        rintro e w6 ⟨⟨pa, pc, rfl, hsp⟩, hb⟩
        have Hs2 := Lib.hid hsp
        replace x17 := x17.keep hb
        replace B := bcall B hb
        clear hb hsp HK
        clear q17 f17 l17
        go_upto_region 23 with fail
        refine name_world ?_
        intro w7 hw7
        have x18 : Bx w7 w6.heap.size 25 #[.int .i64 mkind, .float .f32 mX, .float .f32 mY, .float .f32 mWd, .float .f32 mH, .float .f32 mS, .slice pa mn pc, .bool mout] := by rw [hw7]; exact Bx.new _ _ _
        have hbb : Below w6.heap.size w6 w7 := below_eqK hw7
        have Hs3 := Lib.hid (Hs2.out.keep hbb)
        replace x17 := x17.keep hbb
        replace B := bcall B hbb
        clear hbb hw7 Hs2
        obtain ⟨q17, f17, l17⟩ := x17.all
        go_wp2_with fail
        refine (HM.out _ (HSp.out.keep B)).mono ?_
        rintro e w8 ⟨⟨pa2, pc2, rfl, hsp⟩, hb⟩
        have Hr2 := Lib.hid hsp
        have Hs4 := Lib.hid (Hs3.out.keep hb)
        replace x18 := x18.keep hb
        replace B := bcall B hb
        clear hb hsp HM x17 HSp Hs3
        clear q17 f17 l17
        go_upto_region 24 with fail
        refine name_world ?_
        intro w9 hw9
        have x20 : Bx w9 w8.heap.size 25 #[.int .i64 mkind, .float .f32 mX, .float .f32 mY, .float .f32 mWd, .float .f32 mH, .float .f32 mS, .slice pa2 mn pc2, .bool mout] := by rw [hw9]; exact Bx.new _ _ _
        have hbb : Below w8.heap.size w8 w9 := below_eqK hw9
        have Hs5 := Lib.hid (Hs4.out.keep hbb)
        have Hr3 := Lib.hid (Hr2.out.keep hbb)
        replace x18 := x18.keep hbb
        replace B := bcall B hbb
        clear hbb hw9 Hs4 Hr2
        obtain ⟨q18, f18, l18⟩ := x18.all
        obtain ⟨q20, f20, l20⟩ := x20.all
        go_wp2_with fail
        refine (law_same mkind mX mY mWd mH mS mout _ _ mps _ Hs5.out Hr3.out).mono ?_
        rintro e wa ⟨rfl, hb⟩
        replace B := bcall B hb
        clear hb Hs5 Hr3 x18 x20
        clear q18 f18 l18 q20 f20 l20
        go_wp2_with fail
        go_roundw
        case rel => exact ⟨m + 1, by omega, by go_num, B⟩
        case measure => simp [intOf]; omega
      · obtain rfl : m = M := by omega
        go_wp2_with fail
        go_ret
        exact ⟨rfl, B⟩

end Go.Proofs.Ytfkiljhjiogdlaa
