/- dyelaw1.bent: a text, and no longer than the machine's. -/
import Derived.Test.YtilninaminaadaaGreatDoorBnK
import Derived.Test.YtilninaminaadaaGreatDoorBnC
import Derived.Test.YtilninaminaadaaGreatDoorRvPf
import Derived.Test.YtilninaminaadaaGreatDoorGrd
import Derived.Laws.BitsLemmas
namespace Go.Proofs.YtilninaminaadaaGreatDoor
open Go.RowKit

theorem i64_and65535 (n : Int) : bits .and .i64 n 65535 = n % 65536 := by
  have h127 : (BitVec.ofInt 64 65535).toNat = 2 ^ 16 - 1 := by decide
  have key : (BitVec.ofInt 64 n &&& BitVec.ofInt 64 65535).toNat = (n % ((2 ^ 64 : Nat) : Int)).toNat % 2 ^ 16 := by
    rw [BitVec.toNat_and, BitVec.toNat_ofInt, h127, Nat.and_two_pow_sub_one_eq_mod]
  show IntKind.i64.wrap ((BitVec.ofInt 64 n &&& BitVec.ofInt 64 65535).toNat : Nat) = n % 65536
  rw [key, IntKind.wrap_i64]
  omega
/-- l[:k] and l[k:], of texts. -/
theorem strs_to (g T cap K : Nat) (w : World) (h1 : K ≤ cap) (h2 : 0 < cap) : (Instr.slice 48 (.slice (some ⟨g, 0, none⟩) T cap) none (some (.int .i64 (K : Int))) none).run Tryz.prog w = .ok (.slice (some ⟨g, 0, none⟩) K cap) w := by
  unfold Instr.slice Instr.sliceBounds Instr.sliceBound
  simp [run_underlying Tryz.underlying48, asIntOf, show ¬ cap = 0 by omega]
  rw [if_pos (by omega), show (⟨g, 0, none⟩ : Addr).add 0 = ⟨g, 0, none⟩ from by simp [Addr.add]]
def offS (K cap : Nat) : Nat := if K = cap then 0 else K
theorem strs_from (g T cap K : Nat) (w : World) (h1 : K ≤ T) (h2 : K ≤ cap) (h3 : T ≤ cap) : (Instr.slice 48 (.slice (some ⟨g, 0, none⟩) T cap) (some (.int .i64 (K : Int))) none none).run Tryz.prog w = .ok (.slice (some ⟨g, offS K cap, none⟩) (T - K) (cap - K)) w := by
  unfold Instr.slice Instr.sliceBounds Instr.sliceBound offS
  by_cases h : K = cap
  · subst h
    have : T = K := by omega
    subst this
    simp [run_underlying Tryz.underlying48, asIntOf]
  · simp [run_underlying Tryz.underlying48, asIntOf, show ¬ cap = K by omega, h, Addr.add]
    rw [if_pos h1]
    by_cases hk : K = 0
    · subst hk; simp
    · rw [if_neg hk]

theorem rowB_one {w : World} {g : Nat} {s : ByteArray} (h : Bx w g 9 #[.string s]) : RowB w ⟨g, 0, none⟩ [s] := by
  refine ⟨h.lt, fun j u hj => ?_⟩
  have := h.all.1 j
  rw [show ((⟨g, 0, none⟩ : Addr).add j) = ⟨g, j, none⟩ by simp [Addr.add]; intro e; exact e.symm, this]
  simpa using hj
theorem rowB_from {w : World} {g n k : Nat} {S : List ByteArray} {cs : Array Value} (h : Bx w g 9 cs) (hc : cs = (S.map Value.string).toArray) (hn : n = S.length) : RowB w ⟨g, offS k n, none⟩ (S.drop k) := by
  refine ⟨h.lt, fun j u hj => ?_⟩
  have hj2 : j < (S.drop k).length := by
    have := (List.getElem?_eq_some_iff.1 hj).1
    simpa using this
  rw [List.length_drop] at hj2
  have ho : offS k n = k := by unfold offS; rw [if_neg (by omega)]
  have := h.all.1 (k + j)
  rw [ho, show ((⟨g, k, none⟩ : Addr).add j) = ⟨g, k + j, none⟩ by unfold Addr.add; split <;> simp_all, this, hc]
  rw [List.map_drop, List.getElem?_drop] at hj
  simpa using hj
theorem rowB_to {w : World} {g k : Nat} {S : List ByteArray} {cs : Array Value} (h : Bx w g 9 cs) (hc : cs = (S.map Value.string).toArray) : RowB w ⟨g, 0, none⟩ (S.take k) := by
  refine ⟨h.lt, fun j u hj => ?_⟩
  have := h.all.1 j
  rw [show ((⟨g, 0, none⟩ : Addr).add j) = ⟨g, j, none⟩ by simp [Addr.add]; intro e; exact e.symm, this, hc]
  rw [List.map_take, List.getElem?_take] at hj
  split at hj
  · simpa using hj
  · cases hj
theorem splitNl_env (s : ByteArray) (w : World) (E : EnvT w) (hs : s.size ≤ 1048576) : Calls Tryz.prog 42 #[.string s, .string ⟨#[10]⟩] w fun e w' => ∃ g n cs, e = .returned (.slice (some ⟨g, 0, none⟩) n n) ∧ g = w.heap.size ∧ n = (spl nlB s).length ∧ Bx w' g 9 cs ∧ cs = ((spl nlB s).map Value.string).toArray ∧ Below w.heap.size w w' := by
  obtain ⟨m, hm⟩ := E.max
  refine (Tryz.strings_Split s ⟨#[10]⟩ m w (by omega) hm (by decide)).mono ?_
  rintro e w' ⟨rfl, rfl⟩
  refine ⟨_, _, _, rfl, rfl, (spl_len (by decide)).symm, Bx.new _ _ _, rfl, bnew (Below.refl _ _)⟩
theorem lens_le : ∀ (L : List (List UInt8)) (m : Nat), (∀ l ∈ L, l.length ≤ m) → Lib.lens L ≤ m * L.length
  | [], m, _ => by simp [Lib.lens]
  | l :: L, m, h => by
    have h1 := h l (by simp)
    have h2 := lens_le L m fun x hx => h x (by simp [hx])
    have h3 : Lib.lens (l :: L) = l.length + Lib.lens L := by simp [Lib.lens]
    have h4 : m * (L.length + 1) = m * L.length + m := Nat.mul_succ _ _
    rw [h3, List.length_cons, h4]
    omega
theorem lens_app (L M : List (List UInt8)) : Lib.lens (L ++ M) = Lib.lens L + Lib.lens M := by simp [Lib.lens]
/-- The pieces with one of them turned: how long they are. -/
theorem bent_len {T wi : ByteArray} {I : Nat} {S : List ByteArray} (hS : S = spl nlB T) (hT : T.size ≤ 48000) (hw : wi.size ≤ 140737488351232) (hn : S.length ≤ 48001) : (S.take I ++ ([wi] ++ S.drop (I + 1))).length ≤ 96003 ∧ Lib.lens ((S.take I ++ ([wi] ++ S.drop (I + 1))).map (·.data.toList)) ≤ 140737488351232 + 48000 * 96002 := by
  have h1 : ∀ p ∈ S, p.data.toList.length ≤ 48000 := fun p hp => by
    rw [hS] at hp
    have := spl_mem_size (by decide) hp
    rw [← Lib.size_eq]; omega
  have a1 := lens_le ((S.take I).map (·.data.toList)) 48000 fun l hl => by
    obtain ⟨p, hp, rfl⟩ := List.mem_map.1 hl
    exact h1 p (List.mem_of_mem_take hp)
  have a2 := lens_le ((S.drop (I + 1)).map (·.data.toList)) 48000 fun l hl => by
    obtain ⟨p, hp, rfl⟩ := List.mem_map.1 hl
    exact h1 p (List.mem_of_mem_drop hp)
  have a3 : Lib.lens ([wi].map (·.data.toList)) = wi.size := by simp [Lib.lens]
  rw [List.map_append, List.map_append, lens_app, lens_app, a3]
  simp only [List.length_map, List.length_take, List.length_drop] at a1 a2
  refine ⟨by simp only [List.length_append, List.length_take, List.length_drop, List.length_singleton]; omega, ?_⟩
  have b1 : 48000 * min I S.length ≤ 48000 * 48001 := Nat.mul_le_mul_left _ (by omega)
  have b2 : 48000 * (S.length - (I + 1)) ≤ 48000 * 48001 := Nat.mul_le_mul_left _ (by omega)
  omega
/-- strings.Join of texts that the call owns. -/
theorem join_own {B : Nat} {w : World} {v : Value} {S : List ByteArray} (h : OwnS B w v S) (h1 : 1 ≤ S.length) (hl : S.length ≤ 1000000) (hs : S.length + Lib.lens (S.map (·.data.toList)) ≤ 281474976710656) :
    Calls Tryz.prog 37 #[v, .string ⟨#[10]⟩] w fun e w' => ∃ R, e = .returned (.string R) ∧ R.size ≤ 281474976710656 ∧ Below w.heap.size w w' := by
  rcases h.form with ⟨h0, _⟩ | ⟨g, cap, rfl, hg, hgl, hcap, hcell⟩
  · rw [h0] at h1; simp at h1
  have hcm : cap ≤ 9223372036854775807 := by
    rcases h.2 with ⟨e, _⟩ | ⟨_, cap', _, e, _, _, _, hm, _⟩
    · cases e
    · injection e with _ _ e3
      subst e3
      exact hm
  have hcells : ∀ (j : Nat) x, S[j]? = some x → w.cell? ⟨g, 0 + j, none⟩ = some (.string x) := fun j x hx => by
    have hj := (List.getElem?_eq_some_iff.1 hx).1
    rw [Nat.zero_add, hcell j hj, List.getD_eq_getElem?_getD, hx]; rfl
  by_cases h2 : 2 ≤ S.length
  · exact join_many g 0 cap S ⟨#[10]⟩ w hcells hgl h2 hl hcap hcm (by decide) (by decide) (by show 1 * (S.length - 1) + _ ≤ _; omega)
  · match S, h1, h2, hcells, hs, hcap with
    | [x], _, _, hcells, hs, _ =>
      refine (Any.strings_Join_one Tryz.lays156 Tryz.Builder_Extra_156 g 0 cap x ⟨#[10]⟩ w (hcells 0 x rfl)).mono ?_
      rintro e w' ⟨rfl, rfl⟩
      refine ⟨_, rfl, ?_, Below.refl _ _⟩
      have : Lib.lens ([x].map (·.data.toList)) = x.size := by simp [Lib.lens]
      rw [this] at hs
      omega
    | _ :: _ :: _, _, h2, _, _, _ => exact absurd (by simp) h2

set_option maxRecDepth 100000 in
set_option maxHeartbeats 8000000 in
theorem law_bent (T : ByteArray) (pa : Int) (wi : ByteArray) (W : World) (E : EnvT W) (hT : T.size ≤ 48000) (hw : wi.size ≤ 140737488351232) :
    Calls Tryz.prog 15 #[.string T, .int .i64 pa, .string wi] W fun e w' => ∃ R, e = .returned (.string R) ∧ R.size ≤ 9223372036854775807 ∧ Below W.heap.size W w' := by
  have hie := emptyL T
  by_cases h0 : T.size = 0
  · rw [decide_eq_true h0] at hie
    clear h0
    go_enter Tryz.func15, Tryz.ntmps15
    go_wp2_with fail
    go_ret
    exact ⟨_, rfl, by omega, Below.refl _ _⟩
  · rw [decide_eq_false h0] at hie
    obtain ⟨pb, hpb⟩ : ∃ b, bits .and .i64 pa 1 = b := ⟨_, rfl⟩
    obtain ⟨A, hA⟩ : ∃ A : Nat, bits .and .i64 (pa / 2) 65535 = (A : Int) := ⟨((pa / 2) % 65536).toNat, by rw [i64_and65535]; omega⟩
    by_cases hz : pb = 0
    · subst hz
      go_enter Tryz.func15, Tryz.ntmps15
      go_wp2_with fail
      refine (splitNl_env T W E (by omega)).mono ?_
      rintro e w1 ⟨gl, n, cs, rfl, hgl, hn, x, hcs, B⟩
      obtain ⟨S, hS⟩ : ∃ S, S = spl nlB T := ⟨_, rfl⟩
      rw [← hS] at hn hcs
      have hn1 : 1 ≤ n := by rw [hn, hS]; exact spl_pos (by decide)
      have hn2 : n ≤ 48001 := by
        rw [hn, hS, spl_len (by decide)]
        have := Lib.countB_le nlB (by decide) _ T (Nat.le_refl _)
        omega
      obtain ⟨I, hI⟩ : ∃ I : Nat, (A : Int).tmod (n : Int) = (I : Int) := ⟨((A : Int).tmod (n : Int)).toNat, by have := Int.tmod_nonneg (n : Int) (show 0 ≤ (A : Int) by omega); omega⟩
      have hIT : (I : Int) < (n : Int) := by rw [← hI]; exact Int.tmod_lt_of_pos _ (by omega)
      obtain ⟨P1, hP1⟩ : ∃ P, P = S.take I := ⟨_, rfl⟩
      obtain ⟨P3, hP3⟩ : ∃ P, P = S.drop (I + 1) := ⟨_, rfl⟩
      have hbl := bent_len (I := I) hS hT hw (by omega)
      rw [← hP1, ← hP3] at hbl
      have HL1 : Hid (I = P1.length) := Lib.hid (by rw [hP1, List.length_take]; omega)
      have HL3 : Hid (n - (I + 1) = P3.length) := Lib.hid (by rw [hP3, List.length_drop]; omega)
      have HX := Lib.hid (And.intro x (And.intro hcs hn))
      have HBL := Lib.hid hbl
      have HP := Lib.hid (And.intro hP1 hP3)
      clear hgl hn x hcs hS hP1 hP3 hbl
      go_upto_region 6 with fail
      refine name_world ?_
      intro w2 hw2
      have hB2 : Below w1.heap.size w1 w2 := by
        rw [hw2]; first | exact Below.refl _ _ | exact below_drewN (Below.refl _ _) _
      have B2 := Lib.hid (bcall B hB2)
      have HR1 : Hid (RowB w2 ⟨gl, 0, none⟩ P1) := Lib.hid (by rw [HP.out.1]; exact rowB_to (HX.out.1.keep hB2) HX.out.2.1)
      have HR3 : Hid (RowB w2 ⟨gl, offS (I + 1) n, none⟩ P3) := Lib.hid (by rw [HP.out.2]; exact rowB_from (HX.out.1.keep hB2) HX.out.2.1 HX.out.2.2)
      have HJ : Hid (∀ v w, OwnS w2.heap.size w v (P1 ++ ([wi] ++ P3)) → Calls Tryz.prog 37 #[v, .string ⟨#[10]⟩] w fun e w' => ∃ R, e = .returned (.string R) ∧ R.size ≤ 281474976710656 ∧ Below w.heap.size w w') := Lib.hid (fun v w h => join_own h (by simp only [List.length_append, List.length_singleton]; omega) (by have := HBL.out.1; omega) (by have := HBL.out; omega))
      have hsl1 := fun w => strs_to gl n n I w (by omega) (by omega)
      have hsl3 : ∀ w, (Instr.slice 48 (.slice (some ⟨gl, 0, none⟩) n n) (some (.int .i64 ((I : Int) + 1))) none none).run Tryz.prog w = .ok (.slice (some ⟨gl, offS (I + 1) n, none⟩) (n - (I + 1)) (n - (I + 1))) w := fun w => strs_from gl n n (I + 1) w (by omega) (by omega) (Nat.le_refl _)
      have hI1 : IntKind.i64.wrap ((I : Int) + 1) = (I : Int) + 1 := by rw [IntKind.wrap_i64]; omega
      clear hw2 hB2 B
      refine wp_region_grd 12 (fun _ => false) (fun q u w' => if q = 4 then ∃ gn, u = .slice (some ⟨gn, 0, none⟩) 1 1 ∧ w2.heap.size ≤ gn ∧ Bx w' gn 9 #[.string wi] else if q = 9 then ∃ gn gb, u = .slice (some ⟨gn, 0, none⟩) 3 3 ∧ Bx w' gn 48 #[.slice (some ⟨gl, 0, none⟩) I n, .slice (some ⟨gb, 0, none⟩) 1 1, .slice (some ⟨gl, offS (I + 1) n, none⟩) (n - (I + 1)) (n - (I + 1))] ∧ Bx w' gb 9 #[.string wi] else if q = 10 then OwnS w2.heap.size w' u (P1 ++ ([wi] ++ P3)) else if q = 11 then ∃ R, u = .string R ∧ R.size ≤ 281474976710656 else u = [.slice (some ⟨gl, 0, none⟩) n n, .int .i64 (I : Int), .slice (some ⟨gl, 0, none⟩) I n, .string wi, undef, .slice (some ⟨gl, 0, none⟩) n n, .int .i64 (I : Int), .int .i64 ((I : Int) + 1), .slice (some ⟨gl, offS (I + 1) n, none⟩) (n - (I + 1)) (n - (I + 1)), undef, undef, undef].getD q undef) (fun _ => false) (fun w' => Below w2.heap.size w2 w') (by kernel_rfl) (by kernel_rfl) (fun _ _ _ _ _ h => h)
        (fun _ _ h e => e.trans (h.mono e.size)) (fun t u a' b' hb h => ?_) (Below.refl _ _).drew ?_ ?_ ?_
      · split
        · rename_i h4
          rw [if_pos h4] at h
          obtain ⟨gn, e1, e2, e3⟩ := h
          exact ⟨gn, e1, e2, e3.keep hb⟩
        · rename_i h4
          rw [if_neg h4] at h
          split
          · rename_i h5
            rw [if_pos h5] at h
            obtain ⟨gn, gb, e1, e2, e3⟩ := h
            exact ⟨gn, gb, e1, e2.keep hb, e3.keep hb⟩
          · rename_i h5
            rw [if_neg h5] at h
            split
            · rename_i h6
              rw [if_pos h6] at h
              exact OwnS.keep h hb
            · rename_i h6
              rw [if_neg h6] at h
              exact h
      · intro t op ht hlt hop
        clear hlt
        rcases (by omega : t = 0 ∨ t = 1 ∨ t = 2 ∨ t = 3 ∨ t = 4 ∨ t = 5 ∨ t = 6 ∨ t = 7 ∨ t = 8 ∨ t = 9 ∨ t = 10 ∨ t = 11) with rfl | rfl | rfl | rfl | rfl | rfl | rfl | rfl | rfl | rfl | rfl | rfl
        all_goals simp only [List.getElem?_cons_zero, List.getElem?_cons_succ, Option.some.injEq] at hop
        all_goals subst hop
        all_goals intro a wx hE hag hdep
        · refine grd_none rfl ?_
          have e0 := slot_eq (hag 7 rfl)
          exact rel_pure _ rfl rfl (by simp [go_sem, e0])
        · refine grd_none rfl ?_
          have e0 := slot_eq (hag 8 rfl)
          exact rel_pure _ rfl rfl (by simp [go_sem, e0])
        · refine grd_none rfl ?_
          have e0 := slot_eq (hdep ⟨0, .data⟩ (by simp) rfl)
          have e1 := slot_eq (hdep ⟨1, .data⟩ (by simp) rfl)
          exact rel_pure _ rfl rfl (by simp [go_sem, e0, e1, hsl1])
        · refine grd_none rfl ?_
          have e0 := slot_eq (hag 2 rfl)
          exact rel_pure _ rfl rfl (by simp [go_sem, e0])
        · refine grd_none rfl ?_
          have e0 := slot_eq (hdep ⟨3, .data⟩ (by simp) rfl)
          exact rel_val (v := .slice (some ⟨wx.heap.size, 0, none⟩) 1 1) (w' := wx.alloc (.cells #[.string wi] 9)) (by simp [go_sem, e0]) ⟨wx.heap.size, rfl, hE.size, Bx.new _ _ _⟩ (bnew (Below.refl _ _)) (fun h => by cases h)
        · refine grd_none rfl ?_
          have e0 := slot_eq (hag 7 rfl)
          exact rel_pure _ rfl rfl (by simp [go_sem, e0])
        · refine grd_none rfl ?_
          have e0 := slot_eq (hag 8 rfl)
          exact rel_pure _ rfl rfl (by simp [go_sem, e0])
        · refine grd_none rfl ?_
          have e0 := slot_eq (hdep ⟨6, .data⟩ (by simp) rfl)
          exact rel_pure _ rfl rfl (by simp [go_sem, e0, hI1])
        · refine grd_none rfl ?_
          have e0 := slot_eq (hdep ⟨5, .data⟩ (by simp) rfl)
          have e1 := slot_eq (hdep ⟨7, .data⟩ (by simp) rfl)
          exact rel_pure _ rfl rfl (by simp [go_sem, e0, e1, hsl3])
        · refine grd_none rfl ?_
          have e0 := slot_eq (hdep ⟨2, .data⟩ (by simp) rfl)
          obtain ⟨gb, e1, _, xb⟩ := hdep ⟨4, .data⟩ (by simp) rfl
          have e1 := slot_eq e1
          have e2 := slot_eq (hdep ⟨8, .data⟩ (by simp) rfl)
          have bw : Below wx.heap.size wx (wx.alloc (.cells #[.slice (some ⟨gl, 0, none⟩) I n, .slice (some ⟨gb, 0, none⟩) 1 1, .slice (some ⟨gl, offS (I + 1) n, none⟩) (n - (I + 1)) (n - (I + 1))] 48)) := bnew (Below.refl _ _)
          exact rel_val (v := .slice (some ⟨wx.heap.size, 0, none⟩) 3 3) (w' := wx.alloc (.cells #[.slice (some ⟨gl, 0, none⟩) I n, .slice (some ⟨gb, 0, none⟩) 1 1, .slice (some ⟨gl, offS (I + 1) n, none⟩) (n - (I + 1)) (n - (I + 1))] 48)) (by simp [go_sem, e0, e1, e2]) ⟨wx.heap.size, gb, rfl, Bx.new _ _ _, xb.keep bw⟩ bw (fun h => by cases h)
        · refine grd_none rfl ?_
          obtain ⟨gn, gb, e0, hgx, hgb⟩ := hdep ⟨9, .data⟩ (by simp) rfl
          have e0 := slot_eq e0
          refine rel_call (f := 43) (args := #[.slice (some ⟨gn, 0, none⟩) 3 3]) (run_go_call Tryz.func43 (by kernel_rfl) (by kernel_rfl) _ _ _ _ _ _ _ _ _ _ (by simp [Act.eval, e0])) rfl ?_
          refine (slices_ConcatS gl 0 gb 0 gl (offS (I + 1) n) I n 1 1 (n - (I + 1)) (n - (I + 1)) P1 [wi] P3 wx hgx HL1.out rfl HL3.out (HR1.out.keep hE) (rowB_one hgb) (HR3.out.keep hE) (by omega) (by omega)).mono ?_
          rintro e w' ⟨v, rfl, ho, hbx⟩
          exact ⟨_, rfl, own_monoS' ho hE.size, hbx⟩
        · refine grd_none rfl ?_
          obtain ⟨v, e0, ho⟩ : ∃ v, slotOf _ a 10 = v ∧ OwnS w2.heap.size wx v (P1 ++ ([wi] ++ P3)) := ⟨_, rfl, hdep ⟨10, .data⟩ (by simp) rfl⟩
          have e0 := slot_eq e0
          refine rel_call (f := 37) (args := #[v, .string ⟨#[10]⟩]) (run_go_call Tryz.func37 (by kernel_rfl) (by kernel_rfl) _ _ _ _ _ _ _ _ _ _ (by simp [Act.eval, e0])) rfl ?_
          refine (HJ.out v wx ho).mono ?_
          rintro e w' ⟨R, rfl, hR, hbx⟩
          exact ⟨_, rfl, ⟨R, rfl, hR⟩, hbx⟩
      · intro t op ht hlt; cases hlt
      intro vs w3 hE hvs _
      obtain ⟨R, k11, hR⟩ : ∃ R, vs 11 = .string R ∧ R.size ≤ 281474976710656 := hvs 11 (by omega)
      simp only [List.drop_succ_cons, List.drop_zero, putAll, dstAt, List.getElem?_toArray, List.getElem?_cons_zero, List.getElem?_cons_succ, Option.bind_some, Act.put, List.setIfInBounds_toArray, List.set_cons_zero, List.set_cons_succ, k11]
      clear hvs k11
      go_wp2_with fail
      go_ret
      exact ⟨R, rfl, by omega, bcall B2.out (hE)⟩
    · go_enter Tryz.func15, Tryz.ntmps15
      obtain ⟨I, hI⟩ : ∃ I : Nat, (A : Int).tmod (T.size : Int) = (I : Int) := ⟨((A : Int).tmod (T.size : Int)).toNat, by have := Int.tmod_nonneg (T.size : Int) (show 0 ≤ (A : Int) by omega); omega⟩
      have hIT : (I : Int) < (T.size : Int) := by rw [← hI]; exact Int.tmod_lt_of_pos _ (by omega)
      go_upto_region 8 with fail
      have s1 := extract_le T 0 I
      have s2 := extract_le T (I + 1) T.size
      go_quiet (fail)
      go_wp2_with fail
      go_ret
      refine ⟨_, rfl, ?_, below_drewN (Below.refl _ _) _⟩
      rw [ByteArray.size_append, ByteArray.size_append]
      omega
end Go.Proofs.YtilninaminaadaaGreatDoor
