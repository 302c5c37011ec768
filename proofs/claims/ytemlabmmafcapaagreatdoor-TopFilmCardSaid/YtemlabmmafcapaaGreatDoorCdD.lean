/- The code with so many before it: conform.CodeOf and the reference's, walked rate by rate. (printed by gen_codd.py) -/
import Derived.Test.YtemlabmmafcapaaGreatDoorCdC
namespace Go.Proofs.YtemlabmmafcapaaGreatDoor
open Go.RowKit

theorem emod_of_tmod {a n : Int} (hn : 0 < n) : (a.tmod n < 0 → a % n = a.tmod n + n) ∧ (0 ≤ a.tmod n → a % n = a.tmod n) := by
  have hm := Int.mul_tdiv_add_tmod a n
  have h1 := Int.tmod_lt_of_pos a hn
  have h2 := Int.lt_tmod_of_pos a hn
  refine ⟨fun hlt => ?_, fun hge => ?_⟩
  · have hh := (Int.ediv_emod_unique (a := a) (b := n) (q := a.tdiv n - 1) (r := a.tmod n + n) hn).2 ⟨by rw [Int.mul_sub, Int.mul_one]; omega, by omega, by omega⟩
    exact hh.2
  · exact ((Int.ediv_emod_unique (a := a) (b := n) (q := a.tdiv n) (r := a.tmod n) hn).2 ⟨by omega, by omega, by omega⟩).2
theorem agg4 {a b c d a' b' c' d' : Int} (h1 : a = a') (h2 : b = b') (h3 : c = c') (h4 : d = d') : Value.agg #[.int .i64 a, .int .i64 b, .int .i64 c, .int .i64 d] = Value.agg #[.int .i64 a', .int .i64 b', .int .i64 c', .int .i64 d'] := by
  subst h1 h2 h3 h4; rfl

set_option maxRecDepth 100000 in
set_option maxHeartbeats 4000000 in
theorem conform_CodeOf_err (r n : Int) (W : World) (hr : rateB r = false) : Calls Tryz.prog 17 #[.int .i64 r, .int .i64 n] W fun e w' => e = .returned (.tuple #[.agg #[.int .i64 0, .int .i64 0, .int .i64 0, .int .i64 0], .int .i64 1]) ∧ Below W.heap.size W w' := by
  go_enter Tryz.func17, Tryz.ntmps17
  go_wp2_with fail
  refine (conform_isRate r _).mono ?_
  rintro e w1 ⟨rfl, hb1⟩
  have x0 := (Bx.new W _ _).keep hb1
  have B1 := bcall (bnew (Below.refl _ W)) hb1
  rw [hr]
  clear hb1
  obtain ⟨q0, f0, l0⟩ := x0.all
  go_wp2_with fail
  exact bodyPost_ret (v := .tuple #[.agg #[.int .i64 0, .int .i64 0, .int .i64 0, .int .i64 0], .int .i64 1]) (by simp [results, Tryz.results17, go_sem, q0]) rfl ⟨rfl, bput (by omega) (bput (by omega) (bput (by omega) (bput (by omega) B1)))⟩

set_option maxRecDepth 100000 in
set_option maxHeartbeats 4000000 in
theorem conform_CodeOf_24 (n : Int) (W : World) : Calls Tryz.prog 17 #[.int .i64 24, .int .i64 n] W fun e w' => e = .returned (.tuple #[.agg #[.int .i64 (codeOfH 24 n), .int .i64 (codeOfM 24 n), .int .i64 (codeOfS 24 n), .int .i64 (codeOfF 24 n)], .int .i64 0]) ∧ Below W.heap.size W w' := by
  obtain ⟨dn, dp⟩ := emod_of_tmod (a := n) (n := 2073600) (by decide)
  have d1 := Int.tmod_lt_of_pos n (show (0 : Int) < 2073600 by decide)
  have d2 := Int.lt_tmod_of_pos n (show (0 : Int) < 2073600 by decide)
  have hd : dayN 24 = 2073600 := by decide
  have hc : cntd 24 = 24 := by decide
  obtain ⟨K, hK⟩ : ∃ K, n.tmod 2073600 = K := ⟨_, rfl⟩
  rw [hK] at dn dp d1 d2
  by_cases h0 : K < 0
  · have g : K < 0 := h0
    have dk : n % 2073600 = K + 2073600 := dn g
    have hk : cnum 24 (n % dayN 24) = K + 2073600 := by rw [hd, dk]; rfl
    unfold codeOfH codeOfM codeOfS codeOfF
    rw [hk, hc]
    clear dn dp dk hk hd hc
    go_enter Tryz.func17, Tryz.ntmps17
    go_wp2_with fail
    refine (conform_isRate 24 _).mono ?_
    rintro e w1 ⟨rfl, hb1⟩
    have x0 := (Bx.new W _ _).keep hb1
    have B1 := bcall (bnew (Below.refl _ W)) hb1
    rw [show rateB 24 = true from by decide]
    clear hb1
    obtain ⟨q0, f0, l0⟩ := x0.all
    go_wp2_with fail
    refine (conform_counted _ _).mono ?_
    rintro e w2 ⟨rfl, rfl⟩
    rw [show cntd 24 = 24 from by decide]
    go_wp2_with fail
    exact bodyPost_ret (v := .tuple #[.agg #[.int .i64 ((K + 2073600) / 24 / 3600), .int .i64 ((K + 2073600) / 24 / 60 % 60), .int .i64 ((K + 2073600) / 24 % 60), .int .i64 ((K + 2073600) % 24)], .int .i64 0]) (by simp [results, Tryz.results17, go_sem, q0]) rfl ⟨rfl, bput (by omega) (bput (by omega) (bput (by omega) (bput (by omega) B1)))⟩
  · have g : 0 ≤ K := by omega
    have dk : n % 2073600 = K := dp g
    have hk : cnum 24 (n % dayN 24) = K := by rw [hd, dk]; rfl
    unfold codeOfH codeOfM codeOfS codeOfF
    rw [hk, hc]
    clear dn dp dk hk hd hc
    go_enter Tryz.func17, Tryz.ntmps17
    go_wp2_with fail
    refine (conform_isRate 24 _).mono ?_
    rintro e w1 ⟨rfl, hb1⟩
    have x0 := (Bx.new W _ _).keep hb1
    have B1 := bcall (bnew (Below.refl _ W)) hb1
    rw [show rateB 24 = true from by decide]
    clear hb1
    obtain ⟨q0, f0, l0⟩ := x0.all
    go_wp2_with fail
    refine (conform_counted _ _).mono ?_
    rintro e w2 ⟨rfl, rfl⟩
    rw [show cntd 24 = 24 from by decide]
    go_wp2_with fail
    exact bodyPost_ret (v := .tuple #[.agg #[.int .i64 ((K) / 24 / 3600), .int .i64 ((K) / 24 / 60 % 60), .int .i64 ((K) / 24 % 60), .int .i64 ((K) % 24)], .int .i64 0]) (by simp [results, Tryz.results17, go_sem, q0]) rfl ⟨rfl, bput (by omega) (bput (by omega) (bput (by omega) (bput (by omega) B1)))⟩

set_option maxRecDepth 100000 in
set_option maxHeartbeats 4000000 in
theorem conform_CodeOf_25 (n : Int) (W : World) : Calls Tryz.prog 17 #[.int .i64 25, .int .i64 n] W fun e w' => e = .returned (.tuple #[.agg #[.int .i64 (codeOfH 25 n), .int .i64 (codeOfM 25 n), .int .i64 (codeOfS 25 n), .int .i64 (codeOfF 25 n)], .int .i64 0]) ∧ Below W.heap.size W w' := by
  obtain ⟨dn, dp⟩ := emod_of_tmod (a := n) (n := 2160000) (by decide)
  have d1 := Int.tmod_lt_of_pos n (show (0 : Int) < 2160000 by decide)
  have d2 := Int.lt_tmod_of_pos n (show (0 : Int) < 2160000 by decide)
  have hd : dayN 25 = 2160000 := by decide
  have hc : cntd 25 = 25 := by decide
  obtain ⟨K, hK⟩ : ∃ K, n.tmod 2160000 = K := ⟨_, rfl⟩
  rw [hK] at dn dp d1 d2
  by_cases h0 : K < 0
  · have g : K < 0 := h0
    have dk : n % 2160000 = K + 2160000 := dn g
    have hk : cnum 25 (n % dayN 25) = K + 2160000 := by rw [hd, dk]; rfl
    unfold codeOfH codeOfM codeOfS codeOfF
    rw [hk, hc]
    clear dn dp dk hk hd hc
    go_enter Tryz.func17, Tryz.ntmps17
    go_wp2_with fail
    refine (conform_isRate 25 _).mono ?_
    rintro e w1 ⟨rfl, hb1⟩
    have x0 := (Bx.new W _ _).keep hb1
    have B1 := bcall (bnew (Below.refl _ W)) hb1
    rw [show rateB 25 = true from by decide]
    clear hb1
    obtain ⟨q0, f0, l0⟩ := x0.all
    go_wp2_with fail
    refine (conform_counted _ _).mono ?_
    rintro e w2 ⟨rfl, rfl⟩
    rw [show cntd 25 = 25 from by decide]
    go_wp2_with fail
    exact bodyPost_ret (v := .tuple #[.agg #[.int .i64 ((K + 2160000) / 25 / 3600), .int .i64 ((K + 2160000) / 25 / 60 % 60), .int .i64 ((K + 2160000) / 25 % 60), .int .i64 ((K + 2160000) % 25)], .int .i64 0]) (by simp [results, Tryz.results17, go_sem, q0]) rfl ⟨rfl, bput (by omega) (bput (by omega) (bput (by omega) (bput (by omega) B1)))⟩
  · have g : 0 ≤ K := by omega
    have dk : n % 2160000 = K := dp g
    have hk : cnum 25 (n % dayN 25) = K := by rw [hd, dk]; rfl
    unfold codeOfH codeOfM codeOfS codeOfF
    rw [hk, hc]
    clear dn dp dk hk hd hc
    go_enter Tryz.func17, Tryz.ntmps17
    go_wp2_with fail
    refine (conform_isRate 25 _).mono ?_
    rintro e w1 ⟨rfl, hb1⟩
    have x0 := (Bx.new W _ _).keep hb1
    have B1 := bcall (bnew (Below.refl _ W)) hb1
    rw [show rateB 25 = true from by decide]
    clear hb1
    obtain ⟨q0, f0, l0⟩ := x0.all
    go_wp2_with fail
    refine (conform_counted _ _).mono ?_
    rintro e w2 ⟨rfl, rfl⟩
    rw [show cntd 25 = 25 from by decide]
    go_wp2_with fail
    exact bodyPost_ret (v := .tuple #[.agg #[.int .i64 ((K) / 25 / 3600), .int .i64 ((K) / 25 / 60 % 60), .int .i64 ((K) / 25 % 60), .int .i64 ((K) % 25)], .int .i64 0]) (by simp [results, Tryz.results17, go_sem, q0]) rfl ⟨rfl, bput (by omega) (bput (by omega) (bput (by omega) (bput (by omega) B1)))⟩

set_option maxRecDepth 100000 in
set_option maxHeartbeats 4000000 in
theorem conform_CodeOf_30 (n : Int) (W : World) : Calls Tryz.prog 17 #[.int .i64 30, .int .i64 n] W fun e w' => e = .returned (.tuple #[.agg #[.int .i64 (codeOfH 30 n), .int .i64 (codeOfM 30 n), .int .i64 (codeOfS 30 n), .int .i64 (codeOfF 30 n)], .int .i64 0]) ∧ Below W.heap.size W w' := by
  obtain ⟨dn, dp⟩ := emod_of_tmod (a := n) (n := 2592000) (by decide)
  have d1 := Int.tmod_lt_of_pos n (show (0 : Int) < 2592000 by decide)
  have d2 := Int.lt_tmod_of_pos n (show (0 : Int) < 2592000 by decide)
  have hd : dayN 30 = 2592000 := by decide
  have hc : cntd 30 = 30 := by decide
  obtain ⟨K, hK⟩ : ∃ K, n.tmod 2592000 = K := ⟨_, rfl⟩
  rw [hK] at dn dp d1 d2
  by_cases h0 : K < 0
  · have g : K < 0 := h0
    have dk : n % 2592000 = K + 2592000 := dn g
    have hk : cnum 30 (n % dayN 30) = K + 2592000 := by rw [hd, dk]; rfl
    unfold codeOfH codeOfM codeOfS codeOfF
    rw [hk, hc]
    clear dn dp dk hk hd hc
    go_enter Tryz.func17, Tryz.ntmps17
    go_wp2_with fail
    refine (conform_isRate 30 _).mono ?_
    rintro e w1 ⟨rfl, hb1⟩
    have x0 := (Bx.new W _ _).keep hb1
    have B1 := bcall (bnew (Below.refl _ W)) hb1
    rw [show rateB 30 = true from by decide]
    clear hb1
    obtain ⟨q0, f0, l0⟩ := x0.all
    go_wp2_with fail
    refine (conform_counted _ _).mono ?_
    rintro e w2 ⟨rfl, rfl⟩
    rw [show cntd 30 = 30 from by decide]
    go_wp2_with fail
    exact bodyPost_ret (v := .tuple #[.agg #[.int .i64 ((K + 2592000) / 30 / 3600), .int .i64 ((K + 2592000) / 30 / 60 % 60), .int .i64 ((K + 2592000) / 30 % 60), .int .i64 ((K + 2592000) % 30)], .int .i64 0]) (by simp [results, Tryz.results17, go_sem, q0]) rfl ⟨rfl, bput (by omega) (bput (by omega) (bput (by omega) (bput (by omega) B1)))⟩
  · have g : 0 ≤ K := by omega
    have dk : n % 2592000 = K := dp g
    have hk : cnum 30 (n % dayN 30) = K := by rw [hd, dk]; rfl
    unfold codeOfH codeOfM codeOfS codeOfF
    rw [hk, hc]
    clear dn dp dk hk hd hc
    go_enter Tryz.func17, Tryz.ntmps17
    go_wp2_with fail
    refine (conform_isRate 30 _).mono ?_
    rintro e w1 ⟨rfl, hb1⟩
    have x0 := (Bx.new W _ _).keep hb1
    have B1 := bcall (bnew (Below.refl _ W)) hb1
    rw [show rateB 30 = true from by decide]
    clear hb1
    obtain ⟨q0, f0, l0⟩ := x0.all
    go_wp2_with fail
    refine (conform_counted _ _).mono ?_
    rintro e w2 ⟨rfl, rfl⟩
    rw [show cntd 30 = 30 from by decide]
    go_wp2_with fail
    exact bodyPost_ret (v := .tuple #[.agg #[.int .i64 ((K) / 30 / 3600), .int .i64 ((K) / 30 / 60 % 60), .int .i64 ((K) / 30 % 60), .int .i64 ((K) % 30)], .int .i64 0]) (by simp [results, Tryz.results17, go_sem, q0]) rfl ⟨rfl, bput (by omega) (bput (by omega) (bput (by omega) (bput (by omega) B1)))⟩

set_option maxRecDepth 100000 in
set_option maxHeartbeats 4000000 in
theorem conform_CodeOf_48 (n : Int) (W : World) : Calls Tryz.prog 17 #[.int .i64 48, .int .i64 n] W fun e w' => e = .returned (.tuple #[.agg #[.int .i64 (codeOfH 48 n), .int .i64 (codeOfM 48 n), .int .i64 (codeOfS 48 n), .int .i64 (codeOfF 48 n)], .int .i64 0]) ∧ Below W.heap.size W w' := by
  obtain ⟨dn, dp⟩ := emod_of_tmod (a := n) (n := 4147200) (by decide)
  have d1 := Int.tmod_lt_of_pos n (show (0 : Int) < 4147200 by decide)
  have d2 := Int.lt_tmod_of_pos n (show (0 : Int) < 4147200 by decide)
  have hd : dayN 48 = 4147200 := by decide
  have hc : cntd 48 = 48 := by decide
  obtain ⟨K, hK⟩ : ∃ K, n.tmod 4147200 = K := ⟨_, rfl⟩
  rw [hK] at dn dp d1 d2
  by_cases h0 : K < 0
  · have g : K < 0 := h0
    have dk : n % 4147200 = K + 4147200 := dn g
    have hk : cnum 48 (n % dayN 48) = K + 4147200 := by rw [hd, dk]; rfl
    unfold codeOfH codeOfM codeOfS codeOfF
    rw [hk, hc]
    clear dn dp dk hk hd hc
    go_enter Tryz.func17, Tryz.ntmps17
    go_wp2_with fail
    refine (conform_isRate 48 _).mono ?_
    rintro e w1 ⟨rfl, hb1⟩
    have x0 := (Bx.new W _ _).keep hb1
    have B1 := bcall (bnew (Below.refl _ W)) hb1
    rw [show rateB 48 = true from by decide]
    clear hb1
    obtain ⟨q0, f0, l0⟩ := x0.all
    go_wp2_with fail
    refine (conform_counted _ _).mono ?_
    rintro e w2 ⟨rfl, rfl⟩
    rw [show cntd 48 = 48 from by decide]
    go_wp2_with fail
    exact bodyPost_ret (v := .tuple #[.agg #[.int .i64 ((K + 4147200) / 48 / 3600), .int .i64 ((K + 4147200) / 48 / 60 % 60), .int .i64 ((K + 4147200) / 48 % 60), .int .i64 ((K + 4147200) % 48)], .int .i64 0]) (by simp [results, Tryz.results17, go_sem, q0]) rfl ⟨rfl, bput (by omega) (bput (by omega) (bput (by omega) (bput (by omega) B1)))⟩
  · have g : 0 ≤ K := by omega
    have dk : n % 4147200 = K := dp g
    have hk : cnum 48 (n % dayN 48) = K := by rw [hd, dk]; rfl
    unfold codeOfH codeOfM codeOfS codeOfF
    rw [hk, hc]
    clear dn dp dk hk hd hc
    go_enter Tryz.func17, Tryz.ntmps17
    go_wp2_with fail
    refine (conform_isRate 48 _).mono ?_
    rintro e w1 ⟨rfl, hb1⟩
    have x0 := (Bx.new W _ _).keep hb1
    have B1 := bcall (bnew (Below.refl _ W)) hb1
    rw [show rateB 48 = true from by decide]
    clear hb1
    obtain ⟨q0, f0, l0⟩ := x0.all
    go_wp2_with fail
    refine (conform_counted _ _).mono ?_
    rintro e w2 ⟨rfl, rfl⟩
    rw [show cntd 48 = 48 from by decide]
    go_wp2_with fail
    exact bodyPost_ret (v := .tuple #[.agg #[.int .i64 ((K) / 48 / 3600), .int .i64 ((K) / 48 / 60 % 60), .int .i64 ((K) / 48 % 60), .int .i64 ((K) % 48)], .int .i64 0]) (by simp [results, Tryz.results17, go_sem, q0]) rfl ⟨rfl, bput (by omega) (bput (by omega) (bput (by omega) (bput (by omega) B1)))⟩

set_option maxRecDepth 100000 in
set_option maxHeartbeats 4000000 in
theorem conform_CodeOf_50 (n : Int) (W : World) : Calls Tryz.prog 17 #[.int .i64 50, .int .i64 n] W fun e w' => e = .returned (.tuple #[.agg #[.int .i64 (codeOfH 50 n), .int .i64 (codeOfM 50 n), .int .i64 (codeOfS 50 n), .int .i64 (codeOfF 50 n)], .int .i64 0]) ∧ Below W.heap.size W w' := by
  obtain ⟨dn, dp⟩ := emod_of_tmod (a := n) (n := 4320000) (by decide)
  have d1 := Int.tmod_lt_of_pos n (show (0 : Int) < 4320000 by decide)
  have d2 := Int.lt_tmod_of_pos n (show (0 : Int) < 4320000 by decide)
  have hd : dayN 50 = 4320000 := by decide
  have hc : cntd 50 = 50 := by decide
  obtain ⟨K, hK⟩ : ∃ K, n.tmod 4320000 = K := ⟨_, rfl⟩
  rw [hK] at dn dp d1 d2
  by_cases h0 : K < 0
  · have g : K < 0 := h0
    have dk : n % 4320000 = K + 4320000 := dn g
    have hk : cnum 50 (n % dayN 50) = K + 4320000 := by rw [hd, dk]; rfl
    unfold codeOfH codeOfM codeOfS codeOfF
    rw [hk, hc]
    clear dn dp dk hk hd hc
    go_enter Tryz.func17, Tryz.ntmps17
    go_wp2_with fail
    refine (conform_isRate 50 _).mono ?_
    rintro e w1 ⟨rfl, hb1⟩
    have x0 := (Bx.new W _ _).keep hb1
    have B1 := bcall (bnew (Below.refl _ W)) hb1
    rw [show rateB 50 = true from by decide]
    clear hb1
    obtain ⟨q0, f0, l0⟩ := x0.all
    go_wp2_with fail
    refine (conform_counted _ _).mono ?_
    rintro e w2 ⟨rfl, rfl⟩
    rw [show cntd 50 = 50 from by decide]
    go_wp2_with fail
    exact bodyPost_ret (v := .tuple #[.agg #[.int .i64 ((K + 4320000) / 50 / 3600), .int .i64 ((K + 4320000) / 50 / 60 % 60), .int .i64 ((K + 4320000) / 50 % 60), .int .i64 ((K + 4320000) % 50)], .int .i64 0]) (by simp [results, Tryz.results17, go_sem, q0]) rfl ⟨rfl, bput (by omega) (bput (by omega) (bput (by omega) (bput (by omega) B1)))⟩
  · have g : 0 ≤ K := by omega
    have dk : n % 4320000 = K := dp g
    have hk : cnum 50 (n % dayN 50) = K := by rw [hd, dk]; rfl
    unfold codeOfH codeOfM codeOfS codeOfF
    rw [hk, hc]
    clear dn dp dk hk hd hc
    go_enter Tryz.func17, Tryz.ntmps17
    go_wp2_with fail
    refine (conform_isRate 50 _).mono ?_
    rintro e w1 ⟨rfl, hb1⟩
    have x0 := (Bx.new W _ _).keep hb1
    have B1 := bcall (bnew (Below.refl _ W)) hb1
    rw [show rateB 50 = true from by decide]
    clear hb1
    obtain ⟨q0, f0, l0⟩ := x0.all
    go_wp2_with fail
    refine (conform_counted _ _).mono ?_
    rintro e w2 ⟨rfl, rfl⟩
    rw [show cntd 50 = 50 from by decide]
    go_wp2_with fail
    exact bodyPost_ret (v := .tuple #[.agg #[.int .i64 ((K) / 50 / 3600), .int .i64 ((K) / 50 / 60 % 60), .int .i64 ((K) / 50 % 60), .int .i64 ((K) % 50)], .int .i64 0]) (by simp [results, Tryz.results17, go_sem, q0]) rfl ⟨rfl, bput (by omega) (bput (by omega) (bput (by omega) (bput (by omega) B1)))⟩

set_option maxRecDepth 100000 in
set_option maxHeartbeats 4000000 in
theorem conform_CodeOf_60 (n : Int) (W : World) : Calls Tryz.prog 17 #[.int .i64 60, .int .i64 n] W fun e w' => e = .returned (.tuple #[.agg #[.int .i64 (codeOfH 60 n), .int .i64 (codeOfM 60 n), .int .i64 (codeOfS 60 n), .int .i64 (codeOfF 60 n)], .int .i64 0]) ∧ Below W.heap.size W w' := by
  obtain ⟨dn, dp⟩ := emod_of_tmod (a := n) (n := 5184000) (by decide)
  have d1 := Int.tmod_lt_of_pos n (show (0 : Int) < 5184000 by decide)
  have d2 := Int.lt_tmod_of_pos n (show (0 : Int) < 5184000 by decide)
  have hd : dayN 60 = 5184000 := by decide
  have hc : cntd 60 = 60 := by decide
  obtain ⟨K, hK⟩ : ∃ K, n.tmod 5184000 = K := ⟨_, rfl⟩
  rw [hK] at dn dp d1 d2
  by_cases h0 : K < 0
  · have g : K < 0 := h0
    have dk : n % 5184000 = K + 5184000 := dn g
    have hk : cnum 60 (n % dayN 60) = K + 5184000 := by rw [hd, dk]; rfl
    unfold codeOfH codeOfM codeOfS codeOfF
    rw [hk, hc]
    clear dn dp dk hk hd hc
    go_enter Tryz.func17, Tryz.ntmps17
    go_wp2_with fail
    refine (conform_isRate 60 _).mono ?_
    rintro e w1 ⟨rfl, hb1⟩
    have x0 := (Bx.new W _ _).keep hb1
    have B1 := bcall (bnew (Below.refl _ W)) hb1
    rw [show rateB 60 = true from by decide]
    clear hb1
    obtain ⟨q0, f0, l0⟩ := x0.all
    go_wp2_with fail
    refine (conform_counted _ _).mono ?_
    rintro e w2 ⟨rfl, rfl⟩
    rw [show cntd 60 = 60 from by decide]
    go_wp2_with fail
    exact bodyPost_ret (v := .tuple #[.agg #[.int .i64 ((K + 5184000) / 60 / 3600), .int .i64 ((K + 5184000) / 60 / 60 % 60), .int .i64 ((K + 5184000) / 60 % 60), .int .i64 ((K + 5184000) % 60)], .int .i64 0]) (by simp [results, Tryz.results17, go_sem, q0]) rfl ⟨rfl, bput (by omega) (bput (by omega) (bput (by omega) (bput (by omega) B1)))⟩
  · have g : 0 ≤ K := by omega
    have dk : n % 5184000 = K := dp g
    have hk : cnum 60 (n % dayN 60) = K := by rw [hd, dk]; rfl
    unfold codeOfH codeOfM codeOfS codeOfF
    rw [hk, hc]
    clear dn dp dk hk hd hc
    go_enter Tryz.func17, Tryz.ntmps17
    go_wp2_with fail
    refine (conform_isRate 60 _).mono ?_
    rintro e w1 ⟨rfl, hb1⟩
    have x0 := (Bx.new W _ _).keep hb1
    have B1 := bcall (bnew (Below.refl _ W)) hb1
    rw [show rateB 60 = true from by decide]
    clear hb1
    obtain ⟨q0, f0, l0⟩ := x0.all
    go_wp2_with fail
    refine (conform_counted _ _).mono ?_
    rintro e w2 ⟨rfl, rfl⟩
    rw [show cntd 60 = 60 from by decide]
    go_wp2_with fail
    exact bodyPost_ret (v := .tuple #[.agg #[.int .i64 ((K) / 60 / 3600), .int .i64 ((K) / 60 / 60 % 60), .int .i64 ((K) / 60 % 60), .int .i64 ((K) % 60)], .int .i64 0]) (by simp [results, Tryz.results17, go_sem, q0]) rfl ⟨rfl, bput (by omega) (bput (by omega) (bput (by omega) (bput (by omega) B1)))⟩

set_option maxRecDepth 100000 in
set_option maxHeartbeats 4000000 in
theorem conform_CodeOf_29 (n : Int) (W : World) : Calls Tryz.prog 17 #[.int .i64 29, .int .i64 n] W fun e w' => e = .returned (.tuple #[.agg #[.int .i64 (codeOfH 29 n), .int .i64 (codeOfM 29 n), .int .i64 (codeOfS 29 n), .int .i64 (codeOfF 29 n)], .int .i64 0]) ∧ Below W.heap.size W w' := by
  obtain ⟨dn, dp⟩ := emod_of_tmod (a := n) (n := 2589408) (by decide)
  have d1 := Int.tmod_lt_of_pos n (show (0 : Int) < 2589408 by decide)
  have d2 := Int.lt_tmod_of_pos n (show (0 : Int) < 2589408 by decide)
  have hd : dayN 29 = 2589408 := by decide
  have hc : cntd 29 = 30 := by decide
  obtain ⟨K, hK⟩ : ∃ K, n.tmod 2589408 = K := ⟨_, rfl⟩
  rw [hK] at dn dp d1 d2
  by_cases h0 : K < 0
  · by_cases h5 : 1800 ≤ (K + 2589408) % 17982
    · have g : K < 0 := h0
      have dk : n % 2589408 = K + 2589408 := dn g
      have hk : cnum 29 (n % dayN 29) = 18000 * ((K + 2589408) / 17982) + (K + 2589408) % 17982 + 2 * (((K + 2589408) % 17982 - 1800) / 1798 + 1) := by rw [hd, dk]; unfold cnum; rw [if_pos rfl, if_pos h5]
      unfold codeOfH codeOfM codeOfS codeOfF
      rw [hk, hc]
      clear dn dp dk hk hd hc
      go_enter Tryz.func17, Tryz.ntmps17
      go_wp2_with fail
      refine (conform_isRate 29 _).mono ?_
      rintro e w1 ⟨rfl, hb1⟩
      have x0 := (Bx.new W _ _).keep hb1
      have B1 := bcall (bnew (Below.refl _ W)) hb1
      rw [show rateB 29 = true from by decide]
      clear hb1
      obtain ⟨q0, f0, l0⟩ := x0.all
      go_wp2_with fail
      refine (conform_counted _ _).mono ?_
      rintro e w2 ⟨rfl, rfl⟩
      rw [show cntd 29 = 30 from by decide]
      go_wp2_with fail
      exact bodyPost_ret (v := .tuple #[.agg #[.int .i64 ((18000 * ((K + 2589408) / 17982) + (K + 2589408) % 17982 + 2 * (((K + 2589408) % 17982 - 1800) / 1798 + 1)) / 30 / 3600), .int .i64 ((18000 * ((K + 2589408) / 17982) + (K + 2589408) % 17982 + 2 * (((K + 2589408) % 17982 - 1800) / 1798 + 1)) / 30 / 60 % 60), .int .i64 ((18000 * ((K + 2589408) / 17982) + (K + 2589408) % 17982 + 2 * (((K + 2589408) % 17982 - 1800) / 1798 + 1)) / 30 % 60), .int .i64 ((18000 * ((K + 2589408) / 17982) + (K + 2589408) % 17982 + 2 * (((K + 2589408) % 17982 - 1800) / 1798 + 1)) % 30)], .int .i64 0]) (by simp [results, Tryz.results17, go_sem, q0]) rfl ⟨rfl, bput (by omega) (bput (by omega) (bput (by omega) (bput (by omega) B1)))⟩
    · have g : K < 0 := h0
      have dk : n % 2589408 = K + 2589408 := dn g
      have hk : cnum 29 (n % dayN 29) = 18000 * ((K + 2589408) / 17982) + (K + 2589408) % 17982 + 2 * 0 := by rw [hd, dk]; unfold cnum; rw [if_pos rfl, if_neg h5]; omega
      unfold codeOfH codeOfM codeOfS codeOfF
      rw [hk, hc]
      clear dn dp dk hk hd hc
      go_enter Tryz.func17, Tryz.ntmps17
      go_wp2_with fail
      refine (conform_isRate 29 _).mono ?_
      rintro e w1 ⟨rfl, hb1⟩
      have x0 := (Bx.new W _ _).keep hb1
      have B1 := bcall (bnew (Below.refl _ W)) hb1
      rw [show rateB 29 = true from by decide]
      clear hb1
      obtain ⟨q0, f0, l0⟩ := x0.all
      go_wp2_with fail
      refine (conform_counted _ _).mono ?_
      rintro e w2 ⟨rfl, rfl⟩
      rw [show cntd 29 = 30 from by decide]
      go_wp2_with fail
      exact bodyPost_ret (v := .tuple #[.agg #[.int .i64 ((18000 * ((K + 2589408) / 17982) + (K + 2589408) % 17982 + 2 * 0) / 30 / 3600), .int .i64 ((18000 * ((K + 2589408) / 17982) + (K + 2589408) % 17982 + 2 * 0) / 30 / 60 % 60), .int .i64 ((18000 * ((K + 2589408) / 17982) + (K + 2589408) % 17982 + 2 * 0) / 30 % 60), .int .i64 ((18000 * ((K + 2589408) / 17982) + (K + 2589408) % 17982 + 2 * 0) % 30)], .int .i64 0]) (by simp [results, Tryz.results17, go_sem, q0]) rfl ⟨rfl, bput (by omega) (bput (by omega) (bput (by omega) (bput (by omega) B1)))⟩
  · by_cases h5 : 1800 ≤ (K) % 17982
    · have g : 0 ≤ K := by omega
      have dk : n % 2589408 = K := dp g
      have hk : cnum 29 (n % dayN 29) = 18000 * ((K) / 17982) + (K) % 17982 + 2 * (((K) % 17982 - 1800) / 1798 + 1) := by rw [hd, dk]; unfold cnum; rw [if_pos rfl, if_pos h5]
      unfold codeOfH codeOfM codeOfS codeOfF
      rw [hk, hc]
      clear dn dp dk hk hd hc
      go_enter Tryz.func17, Tryz.ntmps17
      go_wp2_with fail
      refine (conform_isRate 29 _).mono ?_
      rintro e w1 ⟨rfl, hb1⟩
      have x0 := (Bx.new W _ _).keep hb1
      have B1 := bcall (bnew (Below.refl _ W)) hb1
      rw [show rateB 29 = true from by decide]
      clear hb1
      obtain ⟨q0, f0, l0⟩ := x0.all
      go_wp2_with fail
      refine (conform_counted _ _).mono ?_
      rintro e w2 ⟨rfl, rfl⟩
      rw [show cntd 29 = 30 from by decide]
      go_wp2_with fail
      exact bodyPost_ret (v := .tuple #[.agg #[.int .i64 ((18000 * ((K) / 17982) + (K) % 17982 + 2 * (((K) % 17982 - 1800) / 1798 + 1)) / 30 / 3600), .int .i64 ((18000 * ((K) / 17982) + (K) % 17982 + 2 * (((K) % 17982 - 1800) / 1798 + 1)) / 30 / 60 % 60), .int .i64 ((18000 * ((K) / 17982) + (K) % 17982 + 2 * (((K) % 17982 - 1800) / 1798 + 1)) / 30 % 60), .int .i64 ((18000 * ((K) / 17982) + (K) % 17982 + 2 * (((K) % 17982 - 1800) / 1798 + 1)) % 30)], .int .i64 0]) (by simp [results, Tryz.results17, go_sem, q0]) rfl ⟨rfl, bput (by omega) (bput (by omega) (bput (by omega) (bput (by omega) B1)))⟩
    · have g : 0 ≤ K := by omega
      have dk : n % 2589408 = K := dp g
      have hk : cnum 29 (n % dayN 29) = 18000 * ((K) / 17982) + (K) % 17982 + 2 * 0 := by rw [hd, dk]; unfold cnum; rw [if_pos rfl, if_neg h5]; omega
      unfold codeOfH codeOfM codeOfS codeOfF
      rw [hk, hc]
      clear dn dp dk hk hd hc
      go_enter Tryz.func17, Tryz.ntmps17
      go_wp2_with fail
      refine (conform_isRate 29 _).mono ?_
      rintro e w1 ⟨rfl, hb1⟩
      have x0 := (Bx.new W _ _).keep hb1
      have B1 := bcall (bnew (Below.refl _ W)) hb1
      rw [show rateB 29 = true from by decide]
      clear hb1
      obtain ⟨q0, f0, l0⟩ := x0.all
      go_wp2_with fail
      refine (conform_counted _ _).mono ?_
      rintro e w2 ⟨rfl, rfl⟩
      rw [show cntd 29 = 30 from by decide]
      go_wp2_with fail
      exact bodyPost_ret (v := .tuple #[.agg #[.int .i64 ((18000 * ((K) / 17982) + (K) % 17982 + 2 * 0) / 30 / 3600), .int .i64 ((18000 * ((K) / 17982) + (K) % 17982 + 2 * 0) / 30 / 60 % 60), .int .i64 ((18000 * ((K) / 17982) + (K) % 17982 + 2 * 0) / 30 % 60), .int .i64 ((18000 * ((K) / 17982) + (K) % 17982 + 2 * 0) % 30)], .int .i64 0]) (by simp [results, Tryz.results17, go_sem, q0]) rfl ⟨rfl, bput (by omega) (bput (by omega) (bput (by omega) (bput (by omega) B1)))⟩

theorem conform_CodeOf_ok (r n : Int) (W : World) (hr : rateB r = true) : Calls Tryz.prog 17 #[.int .i64 r, .int .i64 n] W fun e w' => e = .returned (.tuple #[.agg #[.int .i64 (codeOfH r n), .int .i64 (codeOfM r n), .int .i64 (codeOfS r n), .int .i64 (codeOfF r n)], .int .i64 0]) ∧ Below W.heap.size W w' := by
  rcases rate_in hr with rfl | rfl | rfl | rfl | rfl | rfl | rfl
  · exact conform_CodeOf_24 n W
  · exact conform_CodeOf_25 n W
  · exact conform_CodeOf_30 n W
  · exact conform_CodeOf_48 n W
  · exact conform_CodeOf_50 n W
  · exact conform_CodeOf_60 n W
  · exact conform_CodeOf_29 n W

end Go.Proofs.YtemlabmmafcapaaGreatDoor
