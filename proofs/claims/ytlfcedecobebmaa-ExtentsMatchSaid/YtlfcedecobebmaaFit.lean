/- The laws' own makers of frames, walked. -/
import Derived.Test.YtlfcedecobebmaaMem
namespace Go.Proofs.Ytlfcedecobebmaa
open Go.RowKit

theorem and_small (w m : Int) (h0 : 0 ≤ m) (h1 : m < 2 ^ 62) : 0 ≤ bits .and .i64 w m ∧ bits .and .i64 w m ≤ m := by
  have e : bits .and .i64 w m = IntKind.i64.wrap ((BitVec.ofInt 64 w &&& BitVec.ofInt 64 m).toNat : Nat) := rfl
  have h2 : (BitVec.ofInt 64 w &&& BitVec.ofInt 64 m).toNat ≤ m.toNat := by
    rw [BitVec.toNat_and]
    have : (BitVec.ofInt 64 m).toNat = m.toNat := by
      rw [BitVec.toNat_ofInt]; congr 1; omega
    rw [this]
    exact Nat.and_le_right
  rw [e, IntKind.wrap_i64]
  generalize (BitVec.ofInt 64 w &&& BitVec.ofInt 64 m).toNat = q at *
  omega

/-- The side that fit makes. -/
def fitSide (w : Int) : Int := 1 + bits .and .i64 w 7
def fitPlace (x : Int) : Int := imin (imax x (-1000)) 1000
theorem fitSide_bd (w : Int) : 1 ≤ fitSide w ∧ fitSide w ≤ 8 := by
  have := and_small w 7 (by omega) (by omega)
  unfold fitSide; omega
theorem fitPlace_bd (x : Int) : -1000 ≤ fitPlace x ∧ fitPlace x ≤ 1000 := by
  have h1 := imax_spec x (-1000)
  have h2 := imin_spec (imax x (-1000)) 1000
  unfold fitPlace; omega

theorem mul4 (a b : Int) (ha : 1 ≤ a) (hb : 1 ≤ b) (ha' : a ≤ 256) (hb' : b ≤ 256) : ∃ N : Nat, 4 * a * b = (N : Int) ∧ wrap64 (4 * a * b) = (N : Int) ∧ 4 ≤ N ∧ N ≤ 262144 := by
  have h := mul_bd a b ha ha' hb hb'
  have e : 4 * a * b = 4 * (a * b) := Int.mul_assoc 4 a b
  refine ⟨(4 * a * b).toNat, by omega, ?_, by omega, by omega⟩
  rw [IntWalk.wrap64_in _ ⟨by omega, by omega⟩]; omega

set_option maxRecDepth 100000 in
set_option maxHeartbeats 400000 in
theorem law_fit_some (x y w h : Int) (b o n c : Nat) (xs : List Nat) (W : World) (hn : 0 < n) (hxs : xs.length = n) (hrd : Rd W b o xs) :
    Calls Try.prog 5 #[.agg #[.int .i64 x, .int .i64 y, .int .i64 w, .int .i64 h, .slice (some ⟨b, o, none⟩) n c]] W fun e w' =>
      ∃ (g N : Nat), (N : Int) = 4 * fitSide w * fitSide h ∧ e = .returned (.agg #[.int .i64 (fitPlace x), .int .i64 (fitPlace y), .int .i64 (fitSide w), .int .i64 (fitSide h), .slice (some ⟨g, 0, none⟩) N N]) ∧
        W.heap.size ≤ g ∧ Row w' g N ((List.range N).map fun j => xs.getD (j % n) 0) ∧ Below W.heap.size W w' := by
  have hw := and_small w 7 (by omega) (by omega)
  have hh := and_small h 7 (by omega) (by omega)
  obtain ⟨w7, hw7⟩ : ∃ w7, w7 = bits .and .i64 w 7 := ⟨_, rfl⟩
  obtain ⟨h7, hh7⟩ : ∃ h7, h7 = bits .and .i64 h 7 := ⟨_, rfl⟩
  have sw : fitSide w = 1 + w7 := by rw [fitSide, hw7]
  have sh : fitSide h = 1 + h7 := by rw [fitSide, hh7]
  rw [sw, sh]
  clear sw sh
  rw [← hw7] at hw
  rw [← hh7] at hh
  have HW := hw7.symm
  have HH := hh7.symm
  clear hw7 hh7
  obtain ⟨N, hN, HN, hN1, hN2⟩ := mul4 (1 + w7) (1 + h7) (by omega) (by omega) (by omega) (by omega)
  have HidN := Lib.hid hN
  clear hN
  have hmk := fun w => run_makeF w N (by omega)
  have hb := hrd.lt
  have Hxs := Lib.hid hxs
  go_enter Try.func5, Try.ntmps5
  go_wp2_with fail
  obtain ⟨wb, hwb⟩ : ∃ wb : World, wb = (W.alloc (.cells #[.int .i64 (imin (imax x (-1000)) 1000), .int .i64 (imin (imax y (-1000)) 1000), .int .i64 (1 + w7), .int .i64 (1 + h7), .slice (some ⟨b, o, none⟩) n c] 26)).alloc (.cells #[.int .i64 0, .int .i64 0, .int .i64 0, .int .i64 0, .slice none 0 0] 26) := ⟨_, rfl⟩
  rw [← hwb]
  go_loopw [44] (fun i wr => ∃ k : Nat, k ≤ N ∧ i = .int .i64 k ∧ Row wr (W.heap.size + 1 + 1) N (fillTo N k fun j => xs.getD (j % n) 0) ∧ Below (W.heap.size + 2) wb wr) (fun i _ => N - (intOf i).toNat)
  case atStart =>
    subst hwb
    refine ⟨0, by omega, rfl, ?_, ?_⟩
    · rw [fillTo_zero]
      have := Row.made ((W.alloc (.cells #[.int .i64 (imin (imax x (-1000)) 1000), .int .i64 (imin (imax y (-1000)) 1000), .int .i64 (1 + w7), .int .i64 (1 + h7), .slice (some ⟨b, o, none⟩) n c] 26)).alloc (.cells #[.int .i64 0, .int .i64 0, .int .i64 0, .int .i64 0, .slice none 0 0] 26)) N
      simpa using this
    · exact (Below.refl _ _).alloc (by simp) _
  case round =>
    obtain ⟨k, hk, rfl, hrow, hbl⟩ := hrel
    obtain ⟨hcl, hfr⟩ := bcell hbl
    by_cases hlt : k < N
    · have hm1 : 0 ≤ (k : Int) % (n : Int) := Int.emod_nonneg _ (by omega)
      have hm2 : (k : Int) % (n : Int) < (n : Int) := Int.emod_lt_of_pos _ (by omega)
      have hc := hrd.cell (k % n) (by rw [hxs]; exact Nat.mod_lt k hn)
      have hrc := hrow.cell k hlt
      have hrf := hrow.frozen k
      have hki : (k : Int) < (N : Int) := by omega
      have hb3 : b < W.heap.size + 1 + 1 + 1 := by omega
      have hb2 : b < W.heap.size + 2 := by omega
      go_wp2_with fail
      refine wp_region_tail (fun z : BW (W.heap.size + 1 + 1 + 1) wr => z.w) 12 (by kernel_rfl) (by kernel_rfl) (BW.start _ _) rfl ?_
      simp only [List.take_succ_cons, List.take_zero, List.drop_succ_cons, List.drop_zero]
      repeat (go_big_quiet_step (fail))
      refine wpQuiet_nil ?_
      intro z
      go_wp2_with fail
      go_roundw
      case rel =>
        refine ⟨k + 1, by omega, by go_num, ?_, ?_⟩
        · have h1 := (hrow.below z.below (by omega)).store k (xs.getD (k % n) 0)
          rwa [fillTo_set N k (fun j => xs.getD (j % n) 0) hlt] at h1
        · exact ((hbl.trans (z.below.mono (by omega))).setCell (by simp) _)
      case measure => simp [intOf]; omega
    · have hkN : k = N := by omega
      subst hkN
      go_wp2_with fail
      refine bodyPost_ret (v := .agg #[.int .i64 (fitPlace x), .int .i64 (fitPlace y), .int .i64 (1 + w7), .int .i64 (1 + h7), .slice (some ⟨W.heap.size + 1 + 1, 0, none⟩) k k]) (by simp [results, Try.results5, go_sem, fitPlace, hcl, hwb]) rfl
        ⟨W.heap.size + 1 + 1, k, HidN.out.symm, rfl, by omega, ?_, ?_⟩
      · repeat (refine Row.other' (by omega) ?_)
        rw [fillTo_full] at hrow
        exact hrow
      · repeat (refine Below.set' (by omega) ?_)
        subst hwb
        exact ((((Below.refl _ _).alloc (Nat.le_refl _) _).alloc (by simp) _).trans (hbl.mono (by omega)))
set_option maxRecDepth 100000 in
set_option maxHeartbeats 400000 in
theorem law_fit_none (x y w h : Int) (a : Option Addr) (c : Nat) (W : World) :
    Calls Try.prog 5 #[.agg #[.int .i64 x, .int .i64 y, .int .i64 w, .int .i64 h, .slice a 0 c]] W fun e w' =>
      ∃ (g N : Nat), (N : Int) = 4 * fitSide w * fitSide h ∧ e = .returned (.agg #[.int .i64 (fitPlace x), .int .i64 (fitPlace y), .int .i64 (fitSide w), .int .i64 (fitSide h), .slice (some ⟨g, 0, none⟩) N N]) ∧
        W.heap.size ≤ g ∧ Row w' g N ((List.range N).map fun _ => 0) ∧ Below W.heap.size W w' := by
  have hw := and_small w 7 (by omega) (by omega)
  have hh := and_small h 7 (by omega) (by omega)
  obtain ⟨w7, hw7⟩ : ∃ w7, w7 = bits .and .i64 w 7 := ⟨_, rfl⟩
  obtain ⟨h7, hh7⟩ : ∃ h7, h7 = bits .and .i64 h 7 := ⟨_, rfl⟩
  have sw : fitSide w = 1 + w7 := by rw [fitSide, hw7]
  have sh : fitSide h = 1 + h7 := by rw [fitSide, hh7]
  rw [sw, sh]
  clear sw sh
  rw [← hw7] at hw
  rw [← hh7] at hh
  have HW := hw7.symm
  have HH := hh7.symm
  clear hw7 hh7
  obtain ⟨N, hN, HN, hN1, hN2⟩ := mul4 (1 + w7) (1 + h7) (by omega) (by omega) (by omega) (by omega)
  have HidN := Lib.hid hN
  clear hN
  have hmk := fun w => run_makeF w N (by omega)
  go_enter Try.func5, Try.ntmps5
  go_wp2_with fail
  obtain ⟨wb, hwb⟩ : ∃ wb : World, wb = (W.alloc (.cells #[.int .i64 (imin (imax x (-1000)) 1000), .int .i64 (imin (imax y (-1000)) 1000), .int .i64 (1 + w7), .int .i64 (1 + h7), .slice a 0 c] 26)).alloc (.cells #[.int .i64 0, .int .i64 0, .int .i64 0, .int .i64 0, .slice none 0 0] 26) := ⟨_, rfl⟩
  rw [← hwb]
  go_loopw [44] (fun i wr => ∃ k : Nat, k ≤ N ∧ i = .int .i64 k ∧ Row wr (W.heap.size + 1 + 1) N (fillTo N k fun _ => 0) ∧ Below (W.heap.size + 2) wb wr) (fun i _ => N - (intOf i).toNat)
  case atStart =>
    subst hwb
    refine ⟨0, by omega, rfl, ?_, ?_⟩
    · rw [fillTo_zero]
      have := Row.made ((W.alloc (.cells #[.int .i64 (imin (imax x (-1000)) 1000), .int .i64 (imin (imax y (-1000)) 1000), .int .i64 (1 + w7), .int .i64 (1 + h7), .slice a 0 c] 26)).alloc (.cells #[.int .i64 0, .int .i64 0, .int .i64 0, .int .i64 0, .slice none 0 0] 26)) N
      simpa using this
    · exact (Below.refl _ _).alloc (by simp) _
  case round =>
    obtain ⟨k, hk, rfl, hrow, hbl⟩ := hrel
    obtain ⟨hcl, hfr⟩ := bcell hbl
    by_cases hlt : k < N
    · have hrc := hrow.cell k hlt
      have hki : (k : Int) < (N : Int) := by omega
      go_wp2_with fail
      go_roundw
      case rel =>
        refine ⟨k + 1, by omega, by go_num, ?_, ?_⟩
        · have h1 : fillTo N k (fun _ => 0) = fillTo N (k + 1) (fun _ => 0) := by simp [fillTo]
          rw [← h1]; exact hrow
        · exact hbl
      case measure => simp [intOf]; omega
    · have hkN : k = N := by omega
      subst hkN
      go_wp2_with fail
      refine bodyPost_ret (v := .agg #[.int .i64 (fitPlace x), .int .i64 (fitPlace y), .int .i64 (1 + w7), .int .i64 (1 + h7), .slice (some ⟨W.heap.size + 1 + 1, 0, none⟩) k k]) (by simp [results, Try.results5, go_sem, fitPlace, hcl, hwb]) rfl
        ⟨W.heap.size + 1 + 1, k, HidN.out.symm, rfl, by omega, ?_, ?_⟩
      · repeat (refine Row.other' (by omega) ?_)
        rw [fillTo_full] at hrow
        exact hrow
      · repeat (refine Below.set' (by omega) ?_)
        subst hwb
        exact ((((Below.refl _ _).alloc (Nat.le_refl _) _).alloc (by simp) _).trans (hbl.mono (by omega)))

/-- What fit makes of the singles. -/
def fitV (xs : List Nat) (N : Nat) : List Nat := (List.range N).map fun j => xs.getD (j % xs.length) 0

theorem fitV_len (xs : List Nat) (N : Nat) : (fitV xs N).length = N := by simp [fitV]
theorem fit_pos {w h : Int} {N : Nat} (hN : (N : Int) = 4 * fitSide w * fitSide h) : 4 ≤ N ∧ N ≤ 256 := by
  have h1 := fitSide_bd w
  have h2 := fitSide_bd h
  have h3 := Int.mul_le_mul h1.1 h2.1 (by omega) (by omega)
  have h4 := Int.mul_le_mul h1.2 h2.2 (by omega) (by omega)
  rw [Int.mul_assoc] at hN
  omega

theorem law_fit (x y w h : Int) (v : Value) (xs : List Nat) (W : World) (hsl : Sl W v xs) :
    Calls Try.prog 5 #[.agg #[.int .i64 x, .int .i64 y, .int .i64 w, .int .i64 h, v]] W fun e w' =>
      ∃ (g N : Nat), (N : Int) = 4 * fitSide w * fitSide h ∧ e = .returned (.agg #[.int .i64 (fitPlace x), .int .i64 (fitPlace y), .int .i64 (fitSide w), .int .i64 (fitSide h), .slice (some ⟨g, 0, none⟩) N N]) ∧
        W.heap.size ≤ g ∧ Row w' g N (fitV xs N) ∧ Below W.heap.size W w' := by
  rcases hsl with ⟨b, o, c, rfl, hne, hrd⟩ | ⟨rfl, a, c, rfl⟩
  · exact law_fit_some x y w h b o xs.length c xs W (List.length_pos_iff.2 hne) rfl hrd
  · refine (law_fit_none x y w h a c W).mono ?_
    rintro e w' ⟨g, N, h1, h2, h3, h4, h5⟩
    exact ⟨g, N, h1, h2, h3, by simpa [fitV] using h4, h5⟩

end Go.Proofs.Ytlfcedecobebmaa
