/- conform.numbers of two words. -/
import Derived.Test.YtilninaminaadaaGreatDoorRvT
import Derived.Test.YtilninaminaadaaGreatDoorNam
import Derived.Lib.Atoi
import Derived.Test.YtilninaminaadaaGreatDoorRvK
namespace Go.Proofs.YtilninaminaadaaGreatDoor

section
open Go.RowKit

def digC : List UInt8 := [48, 49, 50, 51, 52, 53, 54, 55, 56, 57]
def digB (c : UInt8) : Bool := decide (48 ≤ c.toNat) && decide (c.toNat ≤ 57)
theorem digC_has (c : UInt8) : digC.contains c = digB c := by
  have h0 : ∀ n : Fin 256, digC.contains (UInt8.ofNat n.val) = digB (UInt8.ofNat n.val) := by decide +kernel
  have := h0 ⟨c.toNat, c.toNat_lt⟩
  simpa only [UInt8.ofNat_toNat] using this
theorem trim_digs (l : List UInt8) : (Lib.trimS l digC).isEmpty = l.all digB := by
  have e : l.all digB = l.all (digC.contains ·) := by
    congr 1; funext c; exact (digC_has c).symm
  rw [e, Bool.eq_iff_iff, ← trim_nil, List.isEmpty_iff]
/-- The number that a text spells: at most nine digits, none superfluous. -/
def numI (s : ByteArray) : Option Int :=
  let d := Lib.trimPrefix s.data.toList [45]
  if d.length = 0 then none else if 9 < d.length then none else if d.all digB = false then none else if 1 < d.length ∧ (d.getD 0 0).toNat = 48 then none else if s.data.toList = [45, 48] then none else Lib.atoi s.data.toList
theorem decFrom_dig : ∀ (l : List UInt8) (acc : Nat), l.all digB = true → ∃ n, Lib.decFrom acc l = some n
  | [], acc, _ => ⟨acc, rfl⟩
  | c :: l, acc, h => by
    rw [List.all_cons, Bool.and_eq_true] at h
    have h1 := h.1
    unfold digB at h1
    simp only [Bool.and_eq_true, decide_eq_true_eq] at h1
    unfold Lib.decFrom Lib.digitVal
    rw [if_pos h1]
    exact decFrom_dig l _ h.2
theorem trimPre_cases (l : List UInt8) : Lib.trimPrefix l [45] = l ∧ l.head? ≠ some 45 ∨ l = 45 :: Lib.trimPrefix l [45] := by
  cases l with
  | nil => left; exact ⟨rfl, by simp⟩
  | cons c r =>
    by_cases h : c = 45
    · subst h; right; simp [Lib.trimPrefix, Lib.hasPrefix]
    · left
      refine ⟨?_, by simpa using h⟩
      unfold Lib.trimPrefix Lib.hasPrefix
      simp [Ne.symm h]
theorem atoi_dig {s : ByteArray} (h0 : (Lib.trimPrefix s.data.toList [45]).length ≠ 0) (h1 : (Lib.trimPrefix s.data.toList [45]).all digB = true) : ∃ n, Lib.atoi s.data.toList = some n := by
  generalize s.data.toList = l at *
  rcases trimPre_cases l with ⟨e, h2⟩ | e
  · rw [e] at h0 h1
    cases l with
    | nil => simp at h0
    | cons c r =>
      have hc := h1
      rw [List.all_cons, Bool.and_eq_true] at hc
      have h3 := hc.1
      unfold digB at h3
      simp only [Bool.and_eq_true, decide_eq_true_eq] at h3
      have n1 : (c == 45) = false := by
        rw [beq_eq_false_iff_ne]; rintro rfl; exact absurd h3.1 (by decide)
      have n2 : (c == 43) = false := by
        rw [beq_eq_false_iff_ne]; rintro rfl; exact absurd h3.1 (by decide)
      obtain ⟨n, hn⟩ := decFrom_dig _ 0 h1
      unfold Lib.atoi
      simp only [n1, n2, Bool.false_eq_true, if_false, Lib.decNat, List.isEmpty_cons, hn]
      exact ⟨_, rfl⟩
  · generalize Lib.trimPrefix l [45] = d at *
    subst e
    obtain ⟨n, hn⟩ := decFrom_dig _ 0 h1
    unfold Lib.atoi
    have hd : d.isEmpty = false := by cases d <;> simp at h0 ⊢
    simp only [beq_self_eq_true, if_true, Lib.decNat, hd, Bool.false_eq_true, if_false, hn]
    exact ⟨_, rfl⟩
theorem below_atoiR {W w1 : World} (hw : ∃ t, w1 = Lib.bytesWorld W 5 t) : Below W.heap.size W w1 := by
  obtain ⟨t, rfl⟩ := hw
  exact Lib.bytesWorld_below _ _ _
theorem ascii_digC : ∀ (j : Nat) b, ((⟨digC.toArray⟩ : ByteArray)).data.toList[j]? = some b → b.toNat < 128 := by
  intro j b hb
  have hm : b ∈ digC := List.mem_of_getElem? hb
  have : ∀ c ∈ digC, c.toNat < 128 := by decide
  exact this b hm
def tupI (o : Option Int) : Value := match o with | some n => .tuple #[.int .i64 n, .bool true] | none => .tuple #[.int .i64 0, .bool false]
theorem emptyL (s : ByteArray) : s.toList.isEmpty = decide (s.size = 0) := by
  rw [Lib.toList_data, Lib.size_eq]
  cases s.data.toList <;> simp
set_option maxRecDepth 100000 in
set_option maxHeartbeats 4000000 in
theorem num_any (s : ByteArray) (hs : s.size ≤ 9223372036854775807) (W : World) : Calls Tryz.prog 101 #[.string s, .int .i64 9] W fun e w' => e = .returned (tupI (numI s)) ∧ Below W.heap.size W w' := by
  obtain ⟨D, hD⟩ : ∃ D, D = (⟨(Lib.trimPrefix s.data.toList (⟨#[45]⟩ : ByteArray).data.toList).toArray⟩ : ByteArray) := ⟨_, rfl⟩
  have hDl : D.data.toList = Lib.trimPrefix s.data.toList [45] := by rw [hD]
  have hsD : D.size ≤ s.size := by
    rw [Lib.size_eq, Lib.size_eq, hDl]
    rcases trimPre_cases s.data.toList with ⟨e, _⟩ | e
    · rw [e]; exact Nat.le_refl _
    · have := congrArg List.length e
      rw [List.length_cons] at this
      omega
  obtain ⟨T, hT⟩ : ∃ T, T = (⟨(Lib.trimS D.data.toList digC).toArray⟩ : ByteArray) := ⟨_, rfl⟩
  have hTe : T.toList.isEmpty = D.data.toList.all digB := by
    rw [← trim_digs, Lib.toList_data, hT]
  have KX := Lib.hid (fun w => Tryz.strings_TrimPrefix s ⟨#[45]⟩ w)
  have KT := Lib.hid (fun w => Any.strings_Trim_laid Tryz.lays160 (by kernel_rfl) D ⟨digC.toArray⟩ w (by omega) (by decide) ascii_digC)
  rw [← hD] at KX
  rw [show (⟨digC.toArray⟩ : ByteArray).data.toList = digC from rfl, ← hT] at KT
  have hDs : D.size = D.data.toList.length := Lib.size_eq D
  unfold numI
  simp only [← hDl, ← hDs]
  have hhd : ∀ h : 0 < D.size, (D[0]'h).toNat = (D.data.toList.getD 0 0).toNat := by
    intro h
    rw [List.getD_eq_getElem?_getD, List.getElem?_eq_getElem (by rw [← hDs]; exact h)]; rfl
  have hat : D.size ≠ 0 → D.data.toList.all digB = true → ∃ n, Lib.atoi s.data.toList = some n := fun h1 h2 => atoi_dig (by rw [← hDl, ← hDs]; exact h1) (by rw [← hDl]; exact h2)
  have hss : D.size ≤ 9 → s.size ≤ 18 := by
    intro h
    rcases trimPre_cases s.data.toList with ⟨e, _⟩ | e
    · rw [e] at hDl; rw [hDs, hDl, ← Lib.size_eq] at h; omega
    · rw [← hDl] at e
      have := congrArg List.length e
      rw [List.length_cons, ← hDs, ← Lib.size_eq] at this
      omega
  have hse : (s.toList == [45, 48]) = decide (s.data.toList = [45, 48]) := by
    rw [Lib.toList_data, Bool.eq_iff_iff, beq_iff_eq, decide_eq_true_iff]
  have he := emptyL D
  generalize D.data.toList.all digB = al at *
  generalize (D.data.toList.getD 0 0).toNat = z at *
  have HAT := Lib.hid hat
  have HSS := Lib.hid hss
  clear hat hss hD hDl hT hDs
  by_cases g1 : D.size = 0
  · rw [if_pos g1]
    rw [decide_eq_true g1] at he
    clear hTe hse
    go_enter Tryz.func101, Tryz.ntmps101
    go_wp2_with fail
    refine (KX.out _).mono ?_
    rintro e w0 ⟨rfl, rfl⟩
    go_wp2_with fail
    go_ret2
    exact ⟨rfl, Below.refl _ _⟩
  rw [if_neg g1]
  rw [decide_eq_false g1] at he
  by_cases g2 : 9 < D.size
  · rw [if_pos g2]
    have g2' : (9 : Int) < (D.size : Int) := by omega
    clear hTe hse
    go_enter Tryz.func101, Tryz.ntmps101
    go_wp2_with fail
    refine (KX.out _).mono ?_
    rintro e w0 ⟨rfl, rfl⟩
    go_wp2_with fail
    go_ret2
    exact ⟨rfl, Below.refl _ _⟩
  rw [if_neg g2]
  have g2' : decide ((9 : Int) < (D.size : Int)) = false := decide_eq_false (by omega)
  cases al
  · rw [if_pos rfl]
    clear hse
    go_enter Tryz.func101, Tryz.ntmps101
    go_wp2_with fail
    refine (KX.out _).mono ?_
    rintro e w0 ⟨rfl, rfl⟩
    go_wp2_with fail
    refine (KT.out _).mono ?_
    rintro e w1 ⟨rfl, hb1⟩
    go_wp2_with fail
    go_ret2
    exact ⟨rfl, hb1⟩
  rw [if_neg (by simp)]
  by_cases g3 : 1 < D.size
  · have g3' : (1 : Int) < (D.size : Int) := by omega
    by_cases g4 : z = 48
    · rw [if_pos ⟨g3, g4⟩]
      subst g4
      clear hse
      go_enter Tryz.func101, Tryz.ntmps101
      go_wp2_with fail
      refine (KX.out _).mono ?_
      rintro e w0 ⟨rfl, rfl⟩
      go_wp2_with fail
      refine (KT.out _).mono ?_
      rintro e w1 ⟨rfl, hb1⟩
      go_wp2_with fail
      go_ret2
      exact ⟨rfl, hb1⟩
    rw [if_neg (fun h => g4 h.2)]
    have g4' : ((z : Int) == 48) = false := by simp; omega
    by_cases g5 : s.data.toList = [45, 48]
    · rw [if_pos g5]
      rw [decide_eq_true g5] at hse
      go_enter Tryz.func101, Tryz.ntmps101
      go_wp2_with fail
      refine (KX.out _).mono ?_
      rintro e w0 ⟨rfl, rfl⟩
      go_wp2_with fail
      refine (KT.out _).mono ?_
      rintro e w1 ⟨rfl, hb1⟩
      go_wp2_with fail
      go_ret2
      exact ⟨rfl, hb1⟩
    rw [if_neg g5]
    rw [decide_eq_false g5] at hse
    clear g5
    obtain ⟨n, hn⟩ := HAT.out g1 rfl
    have KA := Lib.hid (fun w => Tryz.strconv_Atoi s n (HSS.out (by omega)) hn w)
    rw [hn]
    clear hn
    go_enter Tryz.func101, Tryz.ntmps101
    go_wp2_with fail
    refine (KX.out _).mono ?_
    rintro e w0 ⟨rfl, rfl⟩
    go_wp2_with fail
    refine (KT.out _).mono ?_
    rintro e w1 ⟨rfl, hb1⟩
    go_wp2_with fail
    refine (KA.out _).mono ?_
    rintro e w2 ⟨rfl, hw⟩
    have B := bcall hb1 (below_atoiR hw)
    clear hw hb1
    go_wp2_with fail
    go_quiet (fail)
    go_wp2_with fail
    go_ret2
    exact ⟨rfl, below_drewN B _⟩
  rw [if_neg (fun h => g3 h.1)]
  have g3' : decide ((1 : Int) < (D.size : Int)) = false := decide_eq_false (by omega)
  by_cases g5 : s.data.toList = [45, 48]
  · rw [if_pos g5]
    rw [decide_eq_true g5] at hse
    go_enter Tryz.func101, Tryz.ntmps101
    go_wp2_with fail
    refine (KX.out _).mono ?_
    rintro e w0 ⟨rfl, rfl⟩
    go_wp2_with fail
    refine (KT.out _).mono ?_
    rintro e w1 ⟨rfl, hb1⟩
    go_wp2_with fail
    go_ret2
    exact ⟨rfl, hb1⟩
  rw [if_neg g5]
  rw [decide_eq_false g5] at hse
  clear g5
  obtain ⟨n, hn⟩ := HAT.out g1 rfl
  have KA := Lib.hid (fun w => Tryz.strconv_Atoi s n (HSS.out (by omega)) hn w)
  rw [hn]
  clear hn
  go_enter Tryz.func101, Tryz.ntmps101
  go_wp2_with fail
  refine (KX.out _).mono ?_
  rintro e w0 ⟨rfl, rfl⟩
  go_wp2_with fail
  refine (KT.out _).mono ?_
  rintro e w1 ⟨rfl, hb1⟩
  go_wp2_with fail
  refine (KA.out _).mono ?_
  rintro e w2 ⟨rfl, hw⟩
  have B := bcall hb1 (below_atoiR hw)
  clear hw hb1
  go_wp2_with fail
  go_quiet (fail)
  go_wp2_with fail
  go_ret2
  exact ⟨rfl, below_drewN B _⟩
end

section
open Go.RowKit

/-- What numbers answers of two words. -/
def numR (s1 s2 : ByteArray) (W : World) (e : Ending) (w' : World) : Prop :=
  match numI s1, numI s2 with
  | some a, some b => ∃ v', e = .returned (.tuple #[v', .bool true]) ∧ RowN w' 3 1 v' 2 (fun k _ => .int .i64 (if k = 0 then a else b)) ∧ ∀ c, v'.ownBlock = some c → W.heap.size ≤ c
  | _, _ => e = .returned (.tuple #[.slice none 0 0, .bool false])
theorem numR_none1 {s1 s2 : ByteArray} {W w' : World} (h : numI s1 = none) : numR s1 s2 W (.returned (.tuple #[.slice none 0 0, .bool false])) w' := by
  unfold numR; rw [h]
theorem numR_none2 {s1 s2 : ByteArray} {W w' : World} (h : numI s2 = none) : numR s1 s2 W (.returned (.tuple #[.slice none 0 0, .bool false])) w' := by
  unfold numR; rw [h]; cases numI s1 <;> rfl
def svN (s1 s2 : ByteArray) (k : Nat) : ByteArray := if k = 0 then s1 else s2
def nvN (s1 s2 : ByteArray) (k : Nat) : Int := (numI (svN s1 s2 k)).getD 0
set_option maxRecDepth 100000 in
set_option maxHeartbeats 4000000 in
theorem numbers2 (s1 s2 : ByteArray) (g : Nat) (W : World) (x : Bx W g 9 #[.string s1, .string s2]) (h1 : s1.size ≤ 9223372036854775807) (h2 : s2.size ≤ 9223372036854775807) :
    Calls Tryz.prog 73 #[.slice (some ⟨g, 0, none⟩) 2 2] W fun e w' => numR s1 s2 W e w' ∧ Below W.heap.size W w' := by
  have KA := Lib.hid (fun k w => num_any (svN s1 s2 k) (by unfold svN; split <;> assumption) w)
  have X : Hid (∀ k, k < 2 → W.cell? ⟨g, k, none⟩ = some (.string (svN s1 s2 k))) := Lib.hid (fun k hk => by
    rcases (by omega : k = 0 ∨ k = 1) with rfl | rfl
    · exact x.all.1 0
    · exact x.all.1 1)
  have hgl := x.lt
  clear x h1 h2
  go_enter Tryz.func73, Tryz.ntmps73
  go_wp2_with fail
  go_loopw [4, 11] (fun v i wr => ∃ k : Nat, k ≤ 2 ∧ i = .int .i64 (k : Int) ∧ Hid (RowN wr 3 1 v k (fun j _ => .int .i64 (nvN s1 s2 j)) ∧ (∀ b, v.ownBlock = some b → W.heap.size ≤ b) ∧ ∀ j, j < k → numI (svN s1 s2 j) = some (nvN s1 s2 j)) ∧ Below W.heap.size W wr) (fun _ i _ => 2 - (intOf i).toNat)
  case atStart => exact ⟨0, by omega, rfl, Lib.hid ⟨RowN.nil _ _ _ _, (fun b hb => by cases hb), fun j hj => by omega⟩, Below.refl _ _⟩
  case round =>
    obtain ⟨k, hk, rfl, HR, B⟩ := hrel
    by_cases hlt : k < 2
    · have hq := (B.cell (p := ⟨g, k, none⟩) hgl).trans (X.out k hlt)
      have hki : (k : Int) < 2 := by omega
      have K := Lib.hid (KA.out k)
      cases hn : numI (svN s1 s2 k) with
      | none =>
        rw [hn] at K
        have hN : numI s1 = none ∨ numI s2 = none := by
          rcases (by omega : k = 0 ∨ k = 1) with rfl | rfl
          · exact .inl hn
          · exact .inr hn
        have HN := Lib.hid hN
        clear hn hN
        unfold tupI at K
        generalize svN s1 s2 k = sk at *
        go_wp2_with fail
        refine (K.out _).mono ?_
        rintro e w1 ⟨rfl, hb⟩
        have B1 := bcall B hb
        go_wp2_with fail
        go_ret2
        exact ⟨HN.out.elim numR_none1 numR_none2, B1⟩
      | some n =>
        rw [hn] at K
        have HN := Lib.hid hn
        have hnv : nvN s1 s2 k = n := by unfold nvN; rw [hn]; rfl
        have HNV := Lib.hid hnv
        clear hn hnv
        unfold tupI at K
        obtain ⟨sk, hsk⟩ : ∃ s, s = svN s1 s2 k := ⟨_, rfl⟩
        rw [← hsk] at hq K
        obtain ⟨oa, oc, rfl, _⟩ := HR.out.1.form
        clear hsk
        go_wp2_with fail
        refine (K.out _).mono ?_
        rintro e w1 ⟨rfl, hb⟩
        have B1 := bcall B hb
        have R1 := HR.out.1.keep hb
        have hob := HR.out.2.1
        have hB1 := B1.size
        have hbase := R1.base
        clear hq
        go_wp2_with (at_builtin; refine rowN_append (news := [.int .i64 n]) infoInt Tryz.underlying49 rfl (by decide) rfl (.tmp 22) (.tmp 24) rfl rfl w1.heap.size rfl (R1.keep (bnew (Below.refl _ _))) (Bx.new _ _ _) rfl (one_of _ rfl) (by omega) (by omega) ?_)
        intro g' cap' w2 hrow hgrow hat hlt2
        have B2 : Below W.heap.size W w2 := (B1.alloc (by omega) _).grown hgrow (by simp; omega) (fun b hb => hob b hb)
        have HX : Hid (RowN w2 3 1 (.slice (some ⟨g', 0, none⟩) (k + 1) cap') (k + 1) (fun j _ => .int .i64 (nvN s1 s2 j)) ∧ (∀ b, (Value.slice (some ⟨g', 0, none⟩) (k + 1) cap').ownBlock = some b → W.heap.size ≤ b) ∧ ∀ j, j < k + 1 → numI (svN s1 s2 j) = some (nvN s1 s2 j)) := Lib.hid ⟨hrow.congr (fun j i hj hi => by
            obtain rfl : i = 0 := by omega
            by_cases hjk : j < k
            · rw [if_pos hjk]
            · obtain rfl : j = k := by omega
              rw [if_neg hjk, HNV.out]; rfl), (fun b hb => by
            simp only [Value.ownBlock, Option.some.injEq] at hb
            subst hb
            rcases hat with e | e
            · exact hob _ e
            · (try simp at e); omega), (fun j hj => by
            by_cases hjk : j < k
            · exact HR.out.2.2 j hjk
            · obtain rfl : j = k := by omega
              rw [HN.out, HNV.out])⟩
        clear hrow hgrow hat hlt2 R1 hob hbase B1 hb B HR
        go_wp2_with fail
        go_roundw
        case rel => exact ⟨k + 1, by omega, by go_num, HX, B2⟩
        case measure => simp [intOf]; omega
    · obtain rfl : k = 2 := by omega
      obtain ⟨oa, oc, rfl, _⟩ := HR.out.1.form
      go_wp2_with fail
      go_ret2
      refine ⟨?_, B⟩
      have e0 : numI s1 = some (nvN s1 s2 0) := HR.out.2.2 0 (by omega)
      have e1 : numI s2 = some (nvN s1 s2 1) := HR.out.2.2 1 (by omega)
      unfold numR
      rw [e0, e1]
      exact ⟨_, rfl, HR.out.1.congr (fun j i hj hi => by
        rcases (by omega : j = 0 ∨ j = 1) with rfl | rfl <;> rfl), HR.out.2.1⟩
end
end Go.Proofs.YtilninaminaadaaGreatDoor
