/- The law ExtentsMatch. (printed by gen_lawex.py) -/
import Derived.Test.YtlfcedecobebmaaExF
import Derived.Test.YtlfcedecobebmaaWhn
import Derived.Test.YtlfcedecobebmaaFit
import Derived.Test.YtlfcedecobebmaaGrd
namespace Go.Proofs.Ytlfcedecobebmaa
open Go.RowKit

theorem fitV_lt32 {xs : List Nat} (h : ∀ b ∈ xs, b < 4294967296) (N : Nat) : ∀ b ∈ fitV xs N, b < 4294967296 := by
  intro b hb
  unfold fitV at hb
  obtain ⟨j, _, rfl⟩ := List.mem_map.1 hb
  rw [List.getD_eq_getElem?_getD]
  cases hk : xs[j % xs.length]? with
  | none => simp [hk]
  | some b => simp only [hk, Option.getD_some]; exact h b (List.mem_of_getElem? hk)
theorem run_eq_f0 (w : World) : (Op.equalIn 9999 29 (.float .f32 0) (.float .f32 0)).run Try.prog w = .ok true w := by kernel_rfl
theorem run_ne_odd (a0 a1 a2 a3 a4 : Int) (w : World) : (binOp .neq 38 (.agg #[.int .i64 a0, .int .i64 a1, .int .i64 a2, .int .i64 a3, .int .i64 a4]) (.agg #[.int .i64 a0, .int .i64 a1, .int .i64 a2, .int .i64 a3, .int .i64 a4])).run Try.prog w = .ok (.bool false) w := by
  simp [go_sem]
set_option maxRecDepth 100000 in
theorem ref_ChannelError (ch : Int) (b : Bool) (hb : (decide (ch < 0) || decide (4 < ch)) = b) (W : World) : Calls Try.prog 10 #[.int .i64 ch] W fun e w' => e = .returned (.int .i64 (whenV b 3)) ∧ Below W.heap.size W w' := by
  by_cases h0 : ch < 0
  · have hbt : b = true := by rw [← hb, decide_eq_true h0]; rfl
    subst hbt
    clear hb
    go_enter Try.func10, Try.ntmps10
    go_wp2_with fail
    refine (ref_When _ _ _).mono ?_
    rintro e w1 ⟨rfl, rfl⟩
    go_wp2_with fail
    go_ret
    exact ⟨rfl, Below.refl _ _⟩
  · rw [decide_eq_false h0, Bool.false_or] at hb
    go_enter Try.func10, Try.ntmps10
    go_wp2_with fail
    refine (ref_When _ _ _).mono ?_
    rintro e w1 ⟨rfl, rfl⟩
    go_wp2_with fail
    go_ret
    exact ⟨rfl, Below.refl _ _⟩

set_option maxRecDepth 100000 in
set_option maxHeartbeats 2000000 in
theorem scope_Extent_bad (x y w h ch : Int) (b o n c : Nat) (W : World) (hck : checkFrame x y w h n = 0) (hnm : n ≤ maxLen) (hch : ch < 0 ∨ 4 < ch) :
    Calls Try.prog 6 #[.agg #[.int .i64 x, .int .i64 y, .int .i64 w, .int .i64 h, .slice (some ⟨b, o, none⟩) n c], .int .i64 ch] W fun e w' =>
      e = .returned (.tuple #[.agg #[.float .f32 0, .float .f32 0, .float .f32 0, .int .i64 0], .int .i64 3]) ∧ Below W.heap.size W w' := by
  have Hval := Lib.hid (fun (u : World) => scope_values_bad x y w h ch b o n c u hck hnm hch)
  clear hck hnm hch
  go_enter Try.func6, Try.ntmps6
  go_upto_region 1 with fail
  refine name_world ?_
  intro w0 hw0
  have x2 : Bx w0 W.heap.size 26 #[.int .i64 x, .int .i64 y, .int .i64 w, .int .i64 h, .slice (some ⟨b, o, none⟩) n c] := by rw [hw0]; exact (Bx.new _ _ _).alloc _
  have x4 : Bx w0 (W.heap.size + 1) 31 #[.float .f32 0, .float .f32 0, .float .f32 0, .int .i64 0] := by rw [hw0]; exact Bx.at _ (by simp)
  have B : Below W.heap.size W w0 := by rw [hw0]; exact bnew (bnew (Below.refl _ W))
  clear hw0
  obtain ⟨q1, f1, l1⟩ := x2.all
  go_wp2_with fail
  refine (Hval.out w0).mono ?_
  rintro e w1 ⟨rfl, hb1⟩
  replace x4 := x4.keep hb1
  replace B := bcall B hb1
  clear hb1 q1 f1 l1 x2
  obtain ⟨q4, f4, l4⟩ := x4.all
  go_wp2_with fail
  refine bodyPost_ret (v := .tuple #[.agg #[.float .f32 0, .float .f32 0, .float .f32 0, .int .i64 0], .int .i64 3]) (by simp [results, Try.results6, go_sem, q4]) rfl ⟨rfl, ?_⟩
  exact bput (by omega) (bput (by omega) (bput (by omega) (bput (by omega) B)))
set_option maxRecDepth 100000 in
set_option maxHeartbeats 2000000 in
theorem scope_Rank_bad (x y w h ch part : Int) (b o n c : Nat) (W : World) (hck : checkFrame x y w h n = 0) (hnm : n ≤ maxLen) (hch : ch < 0 ∨ 4 < ch) :
    Calls Try.prog 7 #[.agg #[.int .i64 x, .int .i64 y, .int .i64 w, .int .i64 h, .slice (some ⟨b, o, none⟩) n c], .int .i64 ch, .int .i64 part] W fun e w' =>
      e = .returned (.tuple #[.float .f32 0, .int .i64 3]) ∧ Below W.heap.size W w' := by
  have Hval := Lib.hid (fun (u : World) => scope_values_bad x y w h ch b o n c u hck hnm hch)
  clear hck hnm hch
  go_enter Try.func7, Try.ntmps7
  go_wp2_with fail
  refine (Hval.out _).mono ?_
  rintro e w1 ⟨rfl, hb1⟩
  have B := bcall (bnew (Below.refl _ W)) hb1
  clear hb1
  go_wp2_with fail
  go_ret2
  exact ⟨rfl, B⟩

theorem ext_lit (l : List Nat) : ∃ (mi ma me : Nat) (ou : Int), extOf l = .agg #[.float .f32 mi, .float .f32 ma, .float .f32 me, .int .i64 ou] := by
  unfold extOf
  split
  · exact ⟨_, _, _, _, rfl⟩
  · exact ⟨_, _, _, _, rfl⟩
theorem odd_lit (xs : List Nat) : ∃ n0 n1 n2 n3 n4 : Nat, oddV xs = .agg #[.int .i64 (n0 : Int), .int .i64 (n1 : Int), .int .i64 (n2 : Int), .int .i64 (n3 : Int), .int .i64 (n4 : Int)] ∧ n0 + n1 + n2 + n3 + n4 = xs.length := ⟨_, _, _, _, _, rfl, kc_all _ _ (Nat.le_refl _)⟩

set_option maxRecDepth 100000 in
set_option maxHeartbeats 16000000 in
theorem law_Extents (x y w h ch part : Int) (v : Value) (xs : List Nat) (W : World) (hs1 : Sl W v xs) (hbits : ∀ b ∈ xs, b < 4294967296) :
    Calls Try.prog 3 #[.agg #[.int .i64 x, .int .i64 y, .int .i64 w, .int .i64 h, v], .int .i64 ch, .int .i64 part] W fun e w' =>
      e = .returned (.bool true) ∧ Below W.heap.size W w' := by
  have hv1 : v.cells = #[v] := by rcases hs1 with ⟨b, o, c, rfl, _⟩ | ⟨_, a, c, rfl⟩ <;> rfl
  go_enter Try.func3, Try.ntmps3
  go_wp2_with (go_at_call 4; refine (law_landed _).mono ?_; rintro e w' ⟨rfl, rfl⟩)
  refine (law_fit _ _ _ _ _ _ _ (hs1.keep (bnew (Below.refl _ W)))).mono ?_
  rintro e w1 ⟨g1, N1, hN1, rfl, hg1, row1, hb1⟩
  have x0 := (Bx.new W _ _).keep hb1
  have B1 := bcall (bnew (Below.refl _ W)) hb1
  obtain ⟨q0, f0, l0⟩ := x0.all
  have sd1 := fitSide_bd w
  have sd2 := fitSide_bd h
  have sp1 := fitPlace_bd x
  have sp2 := fitPlace_bd y
  generalize fitSide w = fw at *
  generalize fitSide h = fh at *
  generalize fitPlace x = fx at *
  generalize fitPlace y = fy at *
  go_upto_region 4 with fail
  obtain ⟨z0, on1⟩ := set5 x0 (.int .i64 fx) (.int .i64 fy) (.int .i64 fw) (.int .i64 fh) (.slice (some ⟨g1, 0, none⟩) N1 N1)
  refine name_world ?_
  intro w3 hw3
  rw [← hw3] at z0 on1
  clear hw3
  have row3 := on1.row (by simp at hg1; omega) row1
  have B := bonly B1 on1 (by omega)
  clear x0 q0 f0 l0 hb1 row1 on1 hs1 B1
  obtain ⟨M, hM, hNM⟩ := four_of hN1
  obtain rfl : N1 = 4 * M := hNM
  have hck := checkFrame_of (fitted_ok sd1.1 sd1.2 sd2.1 sd2.2 sp1.1 sp1.2 sp2.1 sp2.2) hN1
  have hyb := fitV_lt32 hbits (4 * M)
  generalize fitV xs (4 * M) = ys at *
  have hM1 : 1 ≤ M := by
    have : 1 * 1 ≤ fw * fh := Int.mul_le_mul (by omega) (by omega) (by omega) (by omega)
    omega
  have hM2 : M ≤ 65536 := by
    have : fw * fh ≤ 256 * 256 := Int.mul_le_mul (by omega) (by omega) (by omega) (by omega)
    omega
  have hys := row3.len
  have x3 := z0
  have rd := row3.rd
  have hp1 : W.heap.size < g1 := by simp at hg1; omega
  clear z0 row3 hbits hg1
  obtain ⟨n0, n1, n2, n3, n4, hod, hsum⟩ := odd_lit ys
  rw [hys] at hsum
  have hso := fun (u : World) (hu : Rd u g1 0 ys) => scope_Odd fx fy fw fh g1 0 (4 * M) (4 * M) ys u hck (by omega) hys hyb hu
  have hro := fun (u : World) (hu : Rd u g1 0 ys) => ref_Odd fx fy fw fh g1 0 (4 * M) (4 * M) ys u (by omega) hys hyb hu
  rw [hod] at hso hro
  have Hodd := Lib.hid (And.intro hso hro)
  clear hso hro hod
  have s1 : IntKind.i64.wrap ((n0 : Int) + (n1 : Int)) = (n0 : Int) + (n1 : Int) := by rw [IntKind.wrap_i64]; omega
  have s2 : IntKind.i64.wrap ((n0 : Int) + (n1 : Int) + (n2 : Int)) = (n0 : Int) + (n1 : Int) + (n2 : Int) := by rw [IntKind.wrap_i64]; omega
  have s3 : IntKind.i64.wrap ((n0 : Int) + (n1 : Int) + (n2 : Int) + (n3 : Int)) = (n0 : Int) + (n1 : Int) + (n2 : Int) + (n3 : Int) := by rw [IntKind.wrap_i64]; omega
  have s4 : IntKind.i64.wrap ((n0 : Int) + (n1 : Int) + (n2 : Int) + (n3 : Int) + (n4 : Int)) = (n0 : Int) + (n1 : Int) + (n2 : Int) + (n3 : Int) + (n4 : Int) := by rw [IntKind.wrap_i64]; omega
  have s5 : (n0 : Int) + (n1 : Int) + (n2 : Int) + (n3 : Int) + (n4 : Int) = ((4 * M : Nat) : Int) := by omega
  have heq := run_ne_odd (n0 : Int) n1 n2 n3 n4
  have HS := Lib.hid (And.intro s1 (And.intro s2 (And.intro s3 (And.intro s4 (And.intro s5 heq)))))
  clear s1 s2 s3 s4 s5 heq hsum
  have HK := Lib.hid (And.intro hck (And.intro hM (And.intro hys (And.intro hyb (And.intro sd1 sd2)))))
  clear hck hM hN1 hys hyb sd1 sd2 sp1 sp2
  by_cases hc : 0 ≤ ch ∧ ch ≤ 4
  · obtain ⟨c, rfl⟩ : ∃ c : Nat, ch = (c : Int) := ⟨ch.toNat, by omega⟩
    have hc4 : c ≤ 4 := by omega
    have hcb : (decide ((c : Int) < 0) || decide (4 < (c : Int))) = false := by rw [decide_eq_false (by omega), decide_eq_false (by omega)]; rfl
    clear hc
    obtain ⟨mi, ma, me, ou, hex⟩ := ext_lit (valsL ys c M)
    have hse := fun (u : World) (hu : Rd u g1 0 ys) => scope_Extent fx fy fw fh g1 0 (4 * M) (4 * M) M c ys u HK.out.1 HK.out.2.1 hM1 hM2 rfl hc4 HK.out.2.2.1 hu (by have := HK.out.2.2.2.2; omega) (by have := HK.out.2.2.2.2; omega) (by have := HK.out.2.2.2.2; omega) (by have := HK.out.2.2.2.2; omega) (Nat.le_refl _) HK.out.2.2.2.1
    have hre := fun (u : World) (hu : Rd u g1 0 ys) => ref_Extent fx fy fw fh g1 0 (4 * M) (4 * M) M c ys u hM1 hM2 rfl hc4 HK.out.2.2.1 hu (Nat.le_refl _) HK.out.2.2.2.1
    rw [hex] at hse hre
    have hsr := fun (u : World) (hu : Rd u g1 0 ys) => scope_Rank fx fy fw fh g1 0 (4 * M) (4 * M) M c part ys u HK.out.1 HK.out.2.1 hM1 hM2 rfl hc4 HK.out.2.2.1 hu (by have := HK.out.2.2.2.2; omega) (by have := HK.out.2.2.2.2; omega) (by have := HK.out.2.2.2.2; omega) (by have := HK.out.2.2.2.2; omega) (Nat.le_refl _) HK.out.2.2.2.1
    have hrr := fun (u : World) (hu : Rd u g1 0 ys) => ref_Rank fx fy fw fh g1 0 (4 * M) (4 * M) M c part ys u hM1 hM2 rfl hc4 HK.out.2.2.1 hu (Nat.le_refl _) HK.out.2.2.2.1
    have HC := Lib.hid (And.intro hse (And.intro hre (And.intro hsr hrr)))
    have Hce := Lib.hid (fun u => ref_ChannelError (c : Int) false hcb u)
    clear hse hre hsr hrr hex hcb
    obtain ⟨q0, f0, l0⟩ := x3.all
    go_wp2_with fail
    refine (HC.out.1 _ rd).mono ?_
    rintro e w4 ⟨rfl, hb4⟩
    clear q0 f0 l0
    replace x3 := x3.keep hb4
    replace rd := rd.keep hb4
    replace B := bcall B hb4
    clear hb4
    go_upto_region 5 with fail
    refine name_world ?_
    intro w5 hw5
    have x7 : Bx w5 w4.heap.size 31 #[.float .f32 mi, .float .f32 ma, .float .f32 me, .int .i64 ou] := by rw [hw5]; exact Bx.new _ _ _
    have hb5 : Below w4.heap.size w4 w5 := by rw [hw5]; exact bnew (Below.refl _ _)
    replace x3 := x3.keep hb5
    replace rd := rd.keep hb5
    replace B := bcall B hb5
    clear hb5
    clear hw5
    obtain ⟨q0, f0, l0⟩ := x3.all
    go_wp2_with fail
    refine (HC.out.2.2.1 _ rd).mono ?_
    rintro e w6 ⟨hrk, hb6⟩
    clear q0 f0 l0
    replace x3 := x3.keep hb6
    replace rd := rd.keep hb6
    replace x7 := x7.keep hb6
    replace B := bcall B hb6
    clear hb6
    obtain ⟨vr, er, rfl, hrk2⟩ : ∃ (vr : Nat) (er : Int), e = .returned (.tuple #[.float .f32 vr, .int .i64 er]) ∧ Hid ((vr = 0 ∧ er = 3 ∧ (part < 0 ∨ 100 < part)) ∨ (er = 0 ∧ (0 ≤ part ∧ part ≤ 100) ∧ ∃ Z : List Nat, vr = Z.getD ((M - 1) * part.toNat / 100) 0 ∧ St.Srt lessP Z ∧ St.Stb lessP Wd (valsL ys c M) Z ∧ St.VL Wd Z)) := by
      rcases hrk with ⟨rfl, h1⟩ | ⟨h1, Z, rfl, h2, h3, h4⟩
      · exact ⟨_, _, rfl, Lib.hid (.inl ⟨rfl, rfl, h1⟩)⟩
      · exact ⟨_, _, rfl, Lib.hid (.inr ⟨rfl, h1, Z, rfl, h2, h3, h4⟩)⟩
    clear hrk
    obtain ⟨q0, f0, l0⟩ := x3.all
    go_wp2_with fail
    refine (Hodd.out.1 _ rd).mono ?_
    rintro e w7 ⟨rfl, hb7⟩
    clear q0 f0 l0
    replace x3 := x3.keep hb7
    replace rd := rd.keep hb7
    replace x7 := x7.keep hb7
    replace B := bcall B hb7
    clear hb7
    go_upto_region 7 with fail
    refine name_world ?_
    intro w8 hw8
    have xo : Bx w8 w7.heap.size 38 #[.int .i64 (n0 : Int), .int .i64 (n1 : Int), .int .i64 (n2 : Int), .int .i64 (n3 : Int), .int .i64 (n4 : Int)] := by rw [hw8]; exact Bx.new _ _ _
    have hb8 : Below w7.heap.size w7 w8 := by rw [hw8]; exact bnew (Below.refl _ _)
    replace x3 := x3.keep hb8
    replace rd := rd.keep hb8
    replace x7 := x7.keep hb8
    replace B := bcall B hb8
    clear hb8
    clear hw8
    obtain ⟨s1, s2, s3, s4, s5, heq⟩ := HS.out
    have Hod := Lib.hid (fun (u : World) (hu : Below w8.heap.size w8 u) => Hodd.out.2 u (rd.keep hu))
    refine wp_region_grd 27 (fun _ => false) (fun q u w' => u = [.int .i64 0, .bool false, .bool false, .agg #[.int .i64 (n0 : Int), .int .i64 (n1 : Int), .int .i64 (n2 : Int), .int .i64 (n3 : Int), .int .i64 (n4 : Int)], .agg #[.int .i64 fx, .int .i64 fy, .int .i64 fw, .int .i64 fh, .slice (some ⟨g1, 0, none⟩) (4 * M) (4 * M)], .agg #[.int .i64 (n0 : Int), .int .i64 (n1 : Int), .int .i64 (n2 : Int), .int .i64 (n3 : Int), .int .i64 (n4 : Int)], .bool false, .bool false, .bool false, .pointer (some ⟨w7.heap.size, 0, none⟩), .int .i64 (n0 : Int), .pointer (some ⟨w7.heap.size, 1, none⟩), .int .i64 (n1 : Int), .int .i64 ((n0 : Int) + (n1 : Int)), .pointer (some ⟨w7.heap.size, 2, none⟩), .int .i64 (n2 : Int), .int .i64 ((n0 : Int) + (n1 : Int) + (n2 : Int)), .pointer (some ⟨w7.heap.size, 3, none⟩), .int .i64 (n3 : Int), .int .i64 ((n0 : Int) + (n1 : Int) + (n2 : Int) + (n3 : Int)), .pointer (some ⟨w7.heap.size, 4, none⟩), .int .i64 (n4 : Int), .int .i64 ((n0 : Int) + (n1 : Int) + (n2 : Int) + (n3 : Int) + (n4 : Int)), .pointer (some ⟨W.heap.size, 4, none⟩), .slice (some ⟨g1, 0, none⟩) (4 * M) (4 * M), .int .i64 ((4 * M : Nat) : Int), .bool false].getD q undef) (fun _ => false) (fun w' => Below w8.heap.size w8 w') (by kernel_rfl) (by kernel_rfl) (fun _ _ _ _ _ h => h)
      (fun _ _ h e => e.trans (h.mono e.size)) (fun t u a' b' hb h => ?_) (Below.refl _ _).drew ?_ ?_ ?_
    · exact h
    · intro t op ht hlt hop
      clear hlt
      rcases (by omega : t = 0 ∨ t = 1 ∨ t = 2 ∨ t = 3 ∨ t = 4 ∨ t = 5 ∨ t = 6 ∨ t = 7 ∨ t = 8 ∨ t = 9 ∨ t = 10 ∨ t = 11 ∨ t = 12 ∨ t = 13 ∨ t = 14 ∨ t = 15 ∨ t = 16 ∨ t = 17 ∨ t = 18 ∨ t = 19 ∨ t = 20 ∨ t = 21 ∨ t = 22 ∨ t = 23 ∨ t = 24 ∨ t = 25 ∨ t = 26) with rfl | rfl | rfl | rfl | rfl | rfl | rfl | rfl | rfl | rfl | rfl | rfl | rfl | rfl | rfl | rfl | rfl | rfl | rfl | rfl | rfl | rfl | rfl | rfl | rfl | rfl | rfl
      all_goals simp only [List.getElem?_cons_zero, List.getElem?_cons_succ, Option.some.injEq] at hop
      all_goals subst hop
      all_goals intro a wx hE hag hdep
      · refine grd_none rfl ?_
        have e0 := slot_eq (hag 12 rfl)
        exact rel_pure _ rfl rfl (by simp [go_sem, e0])
      · refine grd_none rfl ?_
        have e0 := slot_eq (hdep ⟨0, .data⟩ (by simp) rfl)
        exact rel_pure _ rfl rfl (by simp [go_sem, e0])
      · refine grd_none rfl ?_
        have e0 := slot_eq (hdep ⟨1, .data⟩ (by simp) rfl)
        exact rel_pure _ rfl rfl (by simp [go_sem, e0])
      · refine grd_yes (j := 2) (b := false) rfl (hdep ⟨2, .guard⟩ (by simp) rfl) ?_
        have e0 := slot_eq (hag 11 rfl)
        have hq := (xo.keep hE).all.1
        exact rel_pure _ rfl rfl (by simp [go_sem, e0, hq])
      · refine grd_yes (j := 2) (b := false) rfl (hdep ⟨2, .guard⟩ (by simp) rfl) ?_
        have e0 := slot_eq (hag 3 rfl)
        have hq := (x3.keep hE).all.1
        exact rel_pure _ rfl rfl (by simp [go_sem, e0, hq])
      · refine grd_yes (j := 2) (b := false) rfl (hdep ⟨2, .guard⟩ (by simp) rfl) ?_
        have e0 := slot_eq (hdep ⟨4, .data⟩ (by simp) rfl)
        refine rel_call (f := 9) (args := #[.agg #[.int .i64 fx, .int .i64 fy, .int .i64 fw, .int .i64 fh, .slice (some ⟨g1, 0, none⟩) (4 * M) (4 * M)]]) (run_go_call Try.func9 (by kernel_rfl) (by kernel_rfl) _ _ _ _ _ _ _ _ _ _ (by simp [Act.eval, e0])) rfl ?_
        refine (Hod.out wx hE).mono ?_
        rintro e w' ⟨rfl, hbx⟩
        exact ⟨_, rfl, rfl, hbx⟩
      · refine grd_yes (j := 2) (b := false) rfl (hdep ⟨2, .guard⟩ (by simp) rfl) ?_
        have e0 := slot_eq (hdep ⟨3, .data⟩ (by simp) rfl)
        have e1 := slot_eq (hdep ⟨5, .data⟩ (by simp) rfl)
        exact rel_pure _ rfl rfl (by simp [go_sem, e0, e1, heq])
      · refine grd_none rfl ?_
        have e0 := slot_eq (hdep ⟨2, .data⟩ (by simp) rfl)
        have e1 := slot_eq (hdep ⟨6, .data⟩ (by simp) rfl)
        exact rel_pure _ rfl rfl (by simp [go_sem, e0, e1])
      · refine grd_none rfl ?_
        have e0 := slot_eq (hdep ⟨7, .data⟩ (by simp) rfl)
        exact rel_pure _ rfl rfl (by simp [go_sem, e0])
      · refine grd_yes (j := 8) (b := false) rfl (hdep ⟨8, .guard⟩ (by simp) rfl) ?_
        have e0 := slot_eq (hag 11 rfl)
        exact rel_pure _ rfl rfl (by simp [go_sem, e0])
      · refine grd_yes (j := 8) (b := false) rfl (hdep ⟨8, .guard⟩ (by simp) rfl) ?_
        have e0 := slot_eq (hdep ⟨9, .data⟩ (by simp) rfl)
        have hq := (xo.keep hE).all.1
        exact rel_pure _ rfl rfl (by simp [go_sem, e0, hq])
      · refine grd_yes (j := 8) (b := false) rfl (hdep ⟨8, .guard⟩ (by simp) rfl) ?_
        have e0 := slot_eq (hag 11 rfl)
        exact rel_pure _ rfl rfl (by simp [go_sem, e0])
      · refine grd_yes (j := 8) (b := false) rfl (hdep ⟨8, .guard⟩ (by simp) rfl) ?_
        have e0 := slot_eq (hdep ⟨11, .data⟩ (by simp) rfl)
        have hq := (xo.keep hE).all.1
        exact rel_pure _ rfl rfl (by simp [go_sem, e0, hq])
      · refine grd_yes (j := 8) (b := false) rfl (hdep ⟨8, .guard⟩ (by simp) rfl) ?_
        have e0 := slot_eq (hdep ⟨10, .data⟩ (by simp) rfl)
        have e1 := slot_eq (hdep ⟨12, .data⟩ (by simp) rfl)
        exact rel_pure _ rfl rfl (by simp [go_sem, e0, e1, s1])
      · refine grd_yes (j := 8) (b := false) rfl (hdep ⟨8, .guard⟩ (by simp) rfl) ?_
        have e0 := slot_eq (hag 11 rfl)
        exact rel_pure _ rfl rfl (by simp [go_sem, e0])
      · refine grd_yes (j := 8) (b := false) rfl (hdep ⟨8, .guard⟩ (by simp) rfl) ?_
        have e0 := slot_eq (hdep ⟨14, .data⟩ (by simp) rfl)
        have hq := (xo.keep hE).all.1
        exact rel_pure _ rfl rfl (by simp [go_sem, e0, hq])
      · refine grd_yes (j := 8) (b := false) rfl (hdep ⟨8, .guard⟩ (by simp) rfl) ?_
        have e0 := slot_eq (hdep ⟨13, .data⟩ (by simp) rfl)
        have e1 := slot_eq (hdep ⟨15, .data⟩ (by simp) rfl)
        exact rel_pure _ rfl rfl (by simp [go_sem, e0, e1, s2])
      · refine grd_yes (j := 8) (b := false) rfl (hdep ⟨8, .guard⟩ (by simp) rfl) ?_
        have e0 := slot_eq (hag 11 rfl)
        exact rel_pure _ rfl rfl (by simp [go_sem, e0])
      · refine grd_yes (j := 8) (b := false) rfl (hdep ⟨8, .guard⟩ (by simp) rfl) ?_
        have e0 := slot_eq (hdep ⟨17, .data⟩ (by simp) rfl)
        have hq := (xo.keep hE).all.1
        exact rel_pure _ rfl rfl (by simp [go_sem, e0, hq])
      · refine grd_yes (j := 8) (b := false) rfl (hdep ⟨8, .guard⟩ (by simp) rfl) ?_
        have e0 := slot_eq (hdep ⟨16, .data⟩ (by simp) rfl)
        have e1 := slot_eq (hdep ⟨18, .data⟩ (by simp) rfl)
        exact rel_pure _ rfl rfl (by simp [go_sem, e0, e1, s3])
      · refine grd_yes (j := 8) (b := false) rfl (hdep ⟨8, .guard⟩ (by simp) rfl) ?_
        have e0 := slot_eq (hag 11 rfl)
        exact rel_pure _ rfl rfl (by simp [go_sem, e0])
      · refine grd_yes (j := 8) (b := false) rfl (hdep ⟨8, .guard⟩ (by simp) rfl) ?_
        have e0 := slot_eq (hdep ⟨20, .data⟩ (by simp) rfl)
        have hq := (xo.keep hE).all.1
        exact rel_pure _ rfl rfl (by simp [go_sem, e0, hq])
      · refine grd_yes (j := 8) (b := false) rfl (hdep ⟨8, .guard⟩ (by simp) rfl) ?_
        have e0 := slot_eq (hdep ⟨19, .data⟩ (by simp) rfl)
        have e1 := slot_eq (hdep ⟨21, .data⟩ (by simp) rfl)
        exact rel_pure _ rfl rfl (by simp [go_sem, e0, e1, s4])
      · refine grd_yes (j := 8) (b := false) rfl (hdep ⟨8, .guard⟩ (by simp) rfl) ?_
        have e0 := slot_eq (hag 3 rfl)
        exact rel_pure _ rfl rfl (by simp [go_sem, e0])
      · refine grd_yes (j := 8) (b := false) rfl (hdep ⟨8, .guard⟩ (by simp) rfl) ?_
        have e0 := slot_eq (hdep ⟨23, .data⟩ (by simp) rfl)
        have hq := (x3.keep hE).all.1
        exact rel_pure _ rfl rfl (by simp [go_sem, e0, hq])
      · refine grd_yes (j := 8) (b := false) rfl (hdep ⟨8, .guard⟩ (by simp) rfl) ?_
        have e0 := slot_eq (hdep ⟨24, .data⟩ (by simp) rfl)
        exact rel_pure _ rfl rfl (by simp [go_sem, e0])
      · refine grd_yes (j := 8) (b := false) rfl (hdep ⟨8, .guard⟩ (by simp) rfl) ?_
        have e0 := slot_eq (hdep ⟨22, .data⟩ (by simp) rfl)
        have e1 := slot_eq (hdep ⟨25, .data⟩ (by simp) rfl)
        exact rel_pure _ rfl rfl (by simp [go_sem, e0, e1, s5])
    · intro t op ht hlt; cases hlt
    intro vs wy hE hvs _
    have k8 : vs 8 = .bool false := hvs 8 (by omega)
    have k26 : vs 26 = .bool false := hvs 26 (by omega)
    simp only [List.drop_succ_cons, List.drop_zero, putAll, dstAt, List.getElem?_toArray, List.getElem?_cons_zero, List.getElem?_cons_succ, Option.bind_some, Act.put, List.setIfInBounds_toArray, List.set_cons_zero, List.set_cons_succ, k8, k26]
    clear hvs k8 k26
    replace x3 := x3.keep hE
    replace rd := rd.keep hE
    replace x7 := x7.keep hE
    replace B := bcall B hE
    clear hE
    clear s1 s2 s3 s4 s5 heq xo Hod
    go_wp2_with fail
    refine (Hce.out _).mono ?_
    rintro e w9 ⟨rfl, hb9⟩
    replace x3 := x3.keep hb9
    replace rd := rd.keep hb9
    replace x7 := x7.keep hb9
    replace B := bcall B hb9
    clear hb9
    rw [show whenV false 3 = 0 from rfl]
    obtain ⟨q0, f0, l0⟩ := x3.all
    go_wp2_with fail
    refine (HC.out.2.1 _ rd).mono ?_
    rintro e w10 ⟨rfl, hb10⟩
    clear q0 f0 l0
    replace x3 := x3.keep hb10
    replace rd := rd.keep hb10
    replace x7 := x7.keep hb10
    replace B := bcall B hb10
    clear hb10
    go_upto_region 13 with fail
    refine name_world ?_
    intro w11 hw11
    have x14 : Bx w11 w10.heap.size 31 #[.float .f32 mi, .float .f32 ma, .float .f32 me, .int .i64 ou] := by rw [hw11]; exact Bx.new _ _ _
    have hb11 : Below w10.heap.size w10 w11 := by rw [hw11]; exact bnew (Below.refl _ _)
    replace x3 := x3.keep hb11
    replace rd := rd.keep hb11
    replace x7 := x7.keep hb11
    replace B := bcall B hb11
    clear hb11
    clear hw11
    obtain ⟨q7, f7, l7⟩ := x7.all
    obtain ⟨q14, f14, l14⟩ := x14.all
    obtain ⟨q0, f0, l0⟩ := x3.all
    have hsame : ∀ (a : Nat) (u : World), Calls Try.prog 11 #[.float .f32 a, .float .f32 a] u fun e w' => e = .returned (.bool true) ∧ u = w' := fun a u => (law_exact a a u).mono fun _ _ ⟨h1, h2⟩ => ⟨by rw [h1]; simp, h2⟩
    go_wp2_with (go_at_call 11; refine (hsame _ _).mono ?_; rintro e w' ⟨rfl, rfl⟩)
    refine (HC.out.2.2.2 _ rd).mono ?_
    rintro e w12 ⟨hrk, hb12⟩
    clear q0 f0 l0 q7 f7 l7 q14 f14 l14 x14 x7
    replace x3 := x3.keep hb12
    replace rd := rd.keep hb12
    replace B := bcall B hb12
    clear hb12
    obtain rfl : e = .returned (.tuple #[.float .f32 vr, .int .i64 er]) := by
      rcases hrk with ⟨rfl, h1⟩ | ⟨h1, Z, rfl, h2, h3, h4⟩
      · rcases hrk2.out with ⟨rfl, rfl, _⟩ | ⟨_, h5, _⟩
        · rfl
        · omega
      · rcases hrk2.out with ⟨_, _, h5⟩ | ⟨rfl, _, Z2, rfl, h6, h7, h8⟩
        · omega
        · rw [srt_same h6 h7 h8 h2 h3 h4]
    clear hrk hrk2
    go_wp2_with (go_at_call 11; refine (hsame _ _).mono ?_; rintro e w' ⟨rfl, rfl⟩)
    go_ret
    exact ⟨rfl, B⟩
  · have hcb : (decide (ch < 0) || decide (4 < ch)) = true := by
      rw [Bool.or_eq_true, decide_eq_true_eq, decide_eq_true_eq]; omega
    have hch : ch < 0 ∨ 4 < ch := by omega
    have hml : 4 * M ≤ maxLen := by unfold maxLen; omega
    have HC := Lib.hid (And.intro (fun (u : World) => scope_Extent_bad fx fy fw fh ch g1 0 (4 * M) (4 * M) u HK.out.1 hml hch) (fun (u : World) => scope_Rank_bad fx fy fw fh ch part g1 0 (4 * M) (4 * M) u HK.out.1 hml hch))
    have Hce := Lib.hid (fun u => ref_ChannelError ch true hcb u)
    clear hcb hch hml hc
    obtain ⟨q0, f0, l0⟩ := x3.all
    go_wp2_with fail
    refine (HC.out.1 _).mono ?_
    rintro e w4 ⟨rfl, hb4⟩
    clear q0 f0 l0
    replace x3 := x3.keep hb4
    replace rd := rd.keep hb4
    replace B := bcall B hb4
    clear hb4
    go_upto_region 5 with fail
    refine name_world ?_
    intro w5 hw5
    have x7 : Bx w5 w4.heap.size 31 #[.float .f32 0, .float .f32 0, .float .f32 0, .int .i64 0] := by rw [hw5]; exact Bx.new _ _ _
    have hb5 : Below w4.heap.size w4 w5 := by rw [hw5]; exact bnew (Below.refl _ _)
    replace x3 := x3.keep hb5
    replace rd := rd.keep hb5
    replace B := bcall B hb5
    clear hb5
    clear hw5
    obtain ⟨q0, f0, l0⟩ := x3.all
    go_wp2_with fail
    refine (HC.out.2 _).mono ?_
    rintro e w6 ⟨rfl, hb6⟩
    clear q0 f0 l0
    replace x3 := x3.keep hb6
    replace rd := rd.keep hb6
    replace x7 := x7.keep hb6
    replace B := bcall B hb6
    clear hb6
    obtain ⟨q0, f0, l0⟩ := x3.all
    go_wp2_with fail
    refine (Hodd.out.1 _ rd).mono ?_
    rintro e w7 ⟨rfl, hb7⟩
    clear q0 f0 l0
    replace x3 := x3.keep hb7
    replace rd := rd.keep hb7
    replace x7 := x7.keep hb7
    replace B := bcall B hb7
    clear hb7
    go_upto_region 7 with fail
    refine name_world ?_
    intro w8 hw8
    have xo : Bx w8 w7.heap.size 38 #[.int .i64 (n0 : Int), .int .i64 (n1 : Int), .int .i64 (n2 : Int), .int .i64 (n3 : Int), .int .i64 (n4 : Int)] := by rw [hw8]; exact Bx.new _ _ _
    have hb8 : Below w7.heap.size w7 w8 := by rw [hw8]; exact bnew (Below.refl _ _)
    replace x3 := x3.keep hb8
    replace rd := rd.keep hb8
    replace x7 := x7.keep hb8
    replace B := bcall B hb8
    clear hb8
    clear hw8
    obtain ⟨s1, s2, s3, s4, s5, heq⟩ := HS.out
    have Hod := Lib.hid (fun (u : World) (hu : Below w8.heap.size w8 u) => Hodd.out.2 u (rd.keep hu))
    refine wp_region_grd 27 (fun _ => false) (fun q u w' => u = [.int .i64 0, .bool false, .bool false, .agg #[.int .i64 (n0 : Int), .int .i64 (n1 : Int), .int .i64 (n2 : Int), .int .i64 (n3 : Int), .int .i64 (n4 : Int)], .agg #[.int .i64 fx, .int .i64 fy, .int .i64 fw, .int .i64 fh, .slice (some ⟨g1, 0, none⟩) (4 * M) (4 * M)], .agg #[.int .i64 (n0 : Int), .int .i64 (n1 : Int), .int .i64 (n2 : Int), .int .i64 (n3 : Int), .int .i64 (n4 : Int)], .bool false, .bool false, .bool false, .pointer (some ⟨w7.heap.size, 0, none⟩), .int .i64 (n0 : Int), .pointer (some ⟨w7.heap.size, 1, none⟩), .int .i64 (n1 : Int), .int .i64 ((n0 : Int) + (n1 : Int)), .pointer (some ⟨w7.heap.size, 2, none⟩), .int .i64 (n2 : Int), .int .i64 ((n0 : Int) + (n1 : Int) + (n2 : Int)), .pointer (some ⟨w7.heap.size, 3, none⟩), .int .i64 (n3 : Int), .int .i64 ((n0 : Int) + (n1 : Int) + (n2 : Int) + (n3 : Int)), .pointer (some ⟨w7.heap.size, 4, none⟩), .int .i64 (n4 : Int), .int .i64 ((n0 : Int) + (n1 : Int) + (n2 : Int) + (n3 : Int) + (n4 : Int)), .pointer (some ⟨W.heap.size, 4, none⟩), .slice (some ⟨g1, 0, none⟩) (4 * M) (4 * M), .int .i64 ((4 * M : Nat) : Int), .bool false].getD q undef) (fun _ => false) (fun w' => Below w8.heap.size w8 w') (by kernel_rfl) (by kernel_rfl) (fun _ _ _ _ _ h => h)
      (fun _ _ h e => e.trans (h.mono e.size)) (fun t u a' b' hb h => ?_) (Below.refl _ _).drew ?_ ?_ ?_
    · exact h
    · intro t op ht hlt hop
      clear hlt
      rcases (by omega : t = 0 ∨ t = 1 ∨ t = 2 ∨ t = 3 ∨ t = 4 ∨ t = 5 ∨ t = 6 ∨ t = 7 ∨ t = 8 ∨ t = 9 ∨ t = 10 ∨ t = 11 ∨ t = 12 ∨ t = 13 ∨ t = 14 ∨ t = 15 ∨ t = 16 ∨ t = 17 ∨ t = 18 ∨ t = 19 ∨ t = 20 ∨ t = 21 ∨ t = 22 ∨ t = 23 ∨ t = 24 ∨ t = 25 ∨ t = 26) with rfl | rfl | rfl | rfl | rfl | rfl | rfl | rfl | rfl | rfl | rfl | rfl | rfl | rfl | rfl | rfl | rfl | rfl | rfl | rfl | rfl | rfl | rfl | rfl | rfl | rfl | rfl
      all_goals simp only [List.getElem?_cons_zero, List.getElem?_cons_succ, Option.some.injEq] at hop
      all_goals subst hop
      all_goals intro a wx hE hag hdep
      · refine grd_none rfl ?_
        have e0 := slot_eq (hag 12 rfl)
        exact rel_pure _ rfl rfl (by simp [go_sem, e0])
      · refine grd_none rfl ?_
        have e0 := slot_eq (hdep ⟨0, .data⟩ (by simp) rfl)
        exact rel_pure _ rfl rfl (by simp [go_sem, e0])
      · refine grd_none rfl ?_
        have e0 := slot_eq (hdep ⟨1, .data⟩ (by simp) rfl)
        exact rel_pure _ rfl rfl (by simp [go_sem, e0])
      · refine grd_yes (j := 2) (b := false) rfl (hdep ⟨2, .guard⟩ (by simp) rfl) ?_
        have e0 := slot_eq (hag 11 rfl)
        have hq := (xo.keep hE).all.1
        exact rel_pure _ rfl rfl (by simp [go_sem, e0, hq])
      · refine grd_yes (j := 2) (b := false) rfl (hdep ⟨2, .guard⟩ (by simp) rfl) ?_
        have e0 := slot_eq (hag 3 rfl)
        have hq := (x3.keep hE).all.1
        exact rel_pure _ rfl rfl (by simp [go_sem, e0, hq])
      · refine grd_yes (j := 2) (b := false) rfl (hdep ⟨2, .guard⟩ (by simp) rfl) ?_
        have e0 := slot_eq (hdep ⟨4, .data⟩ (by simp) rfl)
        refine rel_call (f := 9) (args := #[.agg #[.int .i64 fx, .int .i64 fy, .int .i64 fw, .int .i64 fh, .slice (some ⟨g1, 0, none⟩) (4 * M) (4 * M)]]) (run_go_call Try.func9 (by kernel_rfl) (by kernel_rfl) _ _ _ _ _ _ _ _ _ _ (by simp [Act.eval, e0])) rfl ?_
        refine (Hod.out wx hE).mono ?_
        rintro e w' ⟨rfl, hbx⟩
        exact ⟨_, rfl, rfl, hbx⟩
      · refine grd_yes (j := 2) (b := false) rfl (hdep ⟨2, .guard⟩ (by simp) rfl) ?_
        have e0 := slot_eq (hdep ⟨3, .data⟩ (by simp) rfl)
        have e1 := slot_eq (hdep ⟨5, .data⟩ (by simp) rfl)
        exact rel_pure _ rfl rfl (by simp [go_sem, e0, e1, heq])
      · refine grd_none rfl ?_
        have e0 := slot_eq (hdep ⟨2, .data⟩ (by simp) rfl)
        have e1 := slot_eq (hdep ⟨6, .data⟩ (by simp) rfl)
        exact rel_pure _ rfl rfl (by simp [go_sem, e0, e1])
      · refine grd_none rfl ?_
        have e0 := slot_eq (hdep ⟨7, .data⟩ (by simp) rfl)
        exact rel_pure _ rfl rfl (by simp [go_sem, e0])
      · refine grd_yes (j := 8) (b := false) rfl (hdep ⟨8, .guard⟩ (by simp) rfl) ?_
        have e0 := slot_eq (hag 11 rfl)
        exact rel_pure _ rfl rfl (by simp [go_sem, e0])
      · refine grd_yes (j := 8) (b := false) rfl (hdep ⟨8, .guard⟩ (by simp) rfl) ?_
        have e0 := slot_eq (hdep ⟨9, .data⟩ (by simp) rfl)
        have hq := (xo.keep hE).all.1
        exact rel_pure _ rfl rfl (by simp [go_sem, e0, hq])
      · refine grd_yes (j := 8) (b := false) rfl (hdep ⟨8, .guard⟩ (by simp) rfl) ?_
        have e0 := slot_eq (hag 11 rfl)
        exact rel_pure _ rfl rfl (by simp [go_sem, e0])
      · refine grd_yes (j := 8) (b := false) rfl (hdep ⟨8, .guard⟩ (by simp) rfl) ?_
        have e0 := slot_eq (hdep ⟨11, .data⟩ (by simp) rfl)
        have hq := (xo.keep hE).all.1
        exact rel_pure _ rfl rfl (by simp [go_sem, e0, hq])
      · refine grd_yes (j := 8) (b := false) rfl (hdep ⟨8, .guard⟩ (by simp) rfl) ?_
        have e0 := slot_eq (hdep ⟨10, .data⟩ (by simp) rfl)
        have e1 := slot_eq (hdep ⟨12, .data⟩ (by simp) rfl)
        exact rel_pure _ rfl rfl (by simp [go_sem, e0, e1, s1])
      · refine grd_yes (j := 8) (b := false) rfl (hdep ⟨8, .guard⟩ (by simp) rfl) ?_
        have e0 := slot_eq (hag 11 rfl)
        exact rel_pure _ rfl rfl (by simp [go_sem, e0])
      · refine grd_yes (j := 8) (b := false) rfl (hdep ⟨8, .guard⟩ (by simp) rfl) ?_
        have e0 := slot_eq (hdep ⟨14, .data⟩ (by simp) rfl)
        have hq := (xo.keep hE).all.1
        exact rel_pure _ rfl rfl (by simp [go_sem, e0, hq])
      · refine grd_yes (j := 8) (b := false) rfl (hdep ⟨8, .guard⟩ (by simp) rfl) ?_
        have e0 := slot_eq (hdep ⟨13, .data⟩ (by simp) rfl)
        have e1 := slot_eq (hdep ⟨15, .data⟩ (by simp) rfl)
        exact rel_pure _ rfl rfl (by simp [go_sem, e0, e1, s2])
      · refine grd_yes (j := 8) (b := false) rfl (hdep ⟨8, .guard⟩ (by simp) rfl) ?_
        have e0 := slot_eq (hag 11 rfl)
        exact rel_pure _ rfl rfl (by simp [go_sem, e0])
      · refine grd_yes (j := 8) (b := false) rfl (hdep ⟨8, .guard⟩ (by simp) rfl) ?_
        have e0 := slot_eq (hdep ⟨17, .data⟩ (by simp) rfl)
        have hq := (xo.keep hE).all.1
        exact rel_pure _ rfl rfl (by simp [go_sem, e0, hq])
      · refine grd_yes (j := 8) (b := false) rfl (hdep ⟨8, .guard⟩ (by simp) rfl) ?_
        have e0 := slot_eq (hdep ⟨16, .data⟩ (by simp) rfl)
        have e1 := slot_eq (hdep ⟨18, .data⟩ (by simp) rfl)
        exact rel_pure _ rfl rfl (by simp [go_sem, e0, e1, s3])
      · refine grd_yes (j := 8) (b := false) rfl (hdep ⟨8, .guard⟩ (by simp) rfl) ?_
        have e0 := slot_eq (hag 11 rfl)
        exact rel_pure _ rfl rfl (by simp [go_sem, e0])
      · refine grd_yes (j := 8) (b := false) rfl (hdep ⟨8, .guard⟩ (by simp) rfl) ?_
        have e0 := slot_eq (hdep ⟨20, .data⟩ (by simp) rfl)
        have hq := (xo.keep hE).all.1
        exact rel_pure _ rfl rfl (by simp [go_sem, e0, hq])
      · refine grd_yes (j := 8) (b := false) rfl (hdep ⟨8, .guard⟩ (by simp) rfl) ?_
        have e0 := slot_eq (hdep ⟨19, .data⟩ (by simp) rfl)
        have e1 := slot_eq (hdep ⟨21, .data⟩ (by simp) rfl)
        exact rel_pure _ rfl rfl (by simp [go_sem, e0, e1, s4])
      · refine grd_yes (j := 8) (b := false) rfl (hdep ⟨8, .guard⟩ (by simp) rfl) ?_
        have e0 := slot_eq (hag 3 rfl)
        exact rel_pure _ rfl rfl (by simp [go_sem, e0])
      · refine grd_yes (j := 8) (b := false) rfl (hdep ⟨8, .guard⟩ (by simp) rfl) ?_
        have e0 := slot_eq (hdep ⟨23, .data⟩ (by simp) rfl)
        have hq := (x3.keep hE).all.1
        exact rel_pure _ rfl rfl (by simp [go_sem, e0, hq])
      · refine grd_yes (j := 8) (b := false) rfl (hdep ⟨8, .guard⟩ (by simp) rfl) ?_
        have e0 := slot_eq (hdep ⟨24, .data⟩ (by simp) rfl)
        exact rel_pure _ rfl rfl (by simp [go_sem, e0])
      · refine grd_yes (j := 8) (b := false) rfl (hdep ⟨8, .guard⟩ (by simp) rfl) ?_
        have e0 := slot_eq (hdep ⟨22, .data⟩ (by simp) rfl)
        have e1 := slot_eq (hdep ⟨25, .data⟩ (by simp) rfl)
        exact rel_pure _ rfl rfl (by simp [go_sem, e0, e1, s5])
    · intro t op ht hlt; cases hlt
    intro vs wy hE hvs _
    have k8 : vs 8 = .bool false := hvs 8 (by omega)
    have k26 : vs 26 = .bool false := hvs 26 (by omega)
    simp only [List.drop_succ_cons, List.drop_zero, putAll, dstAt, List.getElem?_toArray, List.getElem?_cons_zero, List.getElem?_cons_succ, Option.bind_some, Act.put, List.setIfInBounds_toArray, List.set_cons_zero, List.set_cons_succ, k8, k26]
    clear hvs k8 k26
    replace x3 := x3.keep hE
    replace rd := rd.keep hE
    replace x7 := x7.keep hE
    replace B := bcall B hE
    clear hE
    clear s1 s2 s3 s4 s5 heq xo Hod
    go_wp2_with fail
    refine (Hce.out _).mono ?_
    rintro e w9 ⟨rfl, hb9⟩
    replace x3 := x3.keep hb9
    replace rd := rd.keep hb9
    replace x7 := x7.keep hb9
    replace B := bcall B hb9
    clear hb9
    rw [show whenV true 3 = 3 from rfl]
    have hf0 := run_eq_f0
    obtain ⟨q7, f7, l7⟩ := x7.all
    have hsame : ∀ (a : Nat) (u : World), Calls Try.prog 11 #[.float .f32 a, .float .f32 a] u fun e w' => e = .returned (.bool true) ∧ u = w' := fun a u => (law_exact a a u).mono fun _ _ ⟨h1, h2⟩ => ⟨by rw [h1]; simp, h2⟩
    go_wp2_with (go_at_call 11; refine (hsame _ _).mono ?_; rintro e w' ⟨rfl, rfl⟩)
    go_ret
    exact ⟨rfl, B⟩
end Go.Proofs.Ytlfcedecobebmaa
