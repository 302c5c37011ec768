/- slices.Concat of three slices of texts. (printed by gen_bnc.py) -/
import Derived.Test.YtilninaminaadaaGreatDoorStS
import Derived.OwnWalk
import Derived.Lib.AppendZerosOnto
import Derived.Lib.Walk
import Derived.Lib.SliceRun
namespace Go.Proofs.YtilninaminaadaaGreatDoor
open Go.RowKit

/-- From an address on lie the texts S. -/
def RowB (w : World) (a : Addr) (S : List ByteArray) : Prop := a.block < w.heap.size ∧ ∀ (j : Nat) (u : Value), (S.map Value.string)[j]? = some u → w.cell? (a.add j) = some u
theorem RowB.keep {w w' : World} {a : Addr} {S : List ByteArray} (h : RowB w a S) (hb : Below w.heap.size w w') : RowB w' a S :=
  ⟨Nat.lt_of_lt_of_le h.1 hb.size, fun j u hj => by rw [hb.cell (p := a.add j) (by have := h.1; unfold Addr.add; split <;> exact this)]; exact h.2 j u hj⟩
theorem own_monoS' {w : World} {B B' : Nat} {v : Value} {S : List ByteArray} (h : OwnS B w v S) (hb : B' ≤ B) : OwnS B' w v S := by
  refine ⟨h.1, ?_⟩
  rcases h.2 with h0 | ⟨g, cap, cur, e1, e2, e3⟩
  · exact .inl h0
  · exact .inr ⟨g, cap, cur, e1, Nat.le_trans hb e2, e3⟩
theorem strs_append {B : Nat} {w : World} {L K : List ByteArray} {v : Value} {ops : Array Oper} {rest : List Oper} {o : Oper} {a : Act} {Q : Exit → Act → World → Prop} (hgd : o.guard = none) (s x : Operand)
    (ho : o.op = .call { callee := .builtin .append, args := #[s, x], argTypes := #[48, 48] }) (hs : a.eval s = v) (ad : Addr) (m c : Nat) (hx : a.eval x = .slice (some ad) m c) (hmK : m = K.length) (hm : OwnS B w v L)
    (hc : ∀ (j : Nat) (u : Value), (K.map Value.string)[j]? = some u → w.cell? (ad.add j) = some u) (hl : L.length + K.length ≤ 1000000000) (hB : B ≤ w.heap.size)
    (h : ∀ v' w', OwnS B w' v' (L ++ K) → (∀ B0 W0, B0 ≤ B → Below B0 W0 w → Below B0 W0 w') → wpList Tryz.prog ops Q rest (a.put o.dst v') w') :
    wpList Tryz.prog ops Q (o :: rest) a w := by
  subst hmK
  obtain ⟨i0, hi, hz0, hz1, hz2⟩ := info_parts infoS
  have hml : maxLen = 9223372036854775807 := rfl
  refine wpList_append_own w hgd s x 48 ho B 9 i0 (.string ⟨#[]⟩) 1 16 Tryz.underlying48 hi hz0 hz1 hz2 rfl (by decide) v L.length (L.map Value.string) hs hm ad K.length c (K.map Value.string) hx (by rw [List.length_map, Nat.mul_one]) hc ?_ (by omega) (by omega) hB ?_
  · intro u hu
    obtain ⟨p, _, rfl⟩ := List.mem_map.1 hu
    rfl
  · intro v' w' hown hgrow _
    refine h _ w' ?_ (fun B0 W0 hB0 hb => ?_)
    · unfold OwnS
      rw [List.map_append, List.length_append]; exact hown
    · refine hb.grown hgrow (by omega) (fun k hk => ?_)
      have := (OwnS.base hm k hk).1
      omega
set_option maxRecDepth 100000 in
set_option maxHeartbeats 2000000 in
theorem slices_GrowS (n : Nat) (W : World) (h0 : 0 < n) (h1 : n ≤ 1000000) : Calls Tryz.prog 65 #[.slice none 0 0, .int .i64 (n : Int)] W fun e w' => ∃ v, e = .returned v ∧ OwnS W.heap.size w' v [] ∧ Below W.heap.size W w' := by
  obtain ⟨i0, hi, hz0, hz1, hz2⟩ := info_parts infoS
  have hold : (Builtin.firstCells i0.size 0 (.slice none 0 0)).run Tryz.prog W.drew = .ok ([] : List Value).toArray W.drew := run_firstCells_none W.drew i0.size 0 0 0
  have hfit : Builtin.nextslicecap (0 + n) 0 * i0.bytes ≤ 281474976710656 := growslice_fits (by omega) (by rw [hz2]; omega)
  have hr := fun ty => Lib.run_append_grow_zeros W 48 3 ty 9 i0 _ .i64 .i64 Tryz.underlying48 Tryz.underlying3 hi hz0 none 0 0 [] hold n h0 (by rw [hz1]; decide) (by omega) (by omega) (by rw [hz2]; omega) hfit
  have hGn : 0 + n ≤ grownCap W (0 + n) 0 9 := grownCap_ge W _ _ _
  have hG63 := grownCap_le_maxLen W (0 + n) 0 9 (by unfold maxLen; omega)
  rw [Nat.zero_add] at hr hGn hG63
  generalize grownCap W n 0 9 = G at *
  unfold maxLen at hG63
  clear hold hfit
  go_enter Tryz.func65, Tryz.ntmps65
  go_wp2_with (at_builtin; refine Lib.wpList_append_run _ rfl _ _ _ _ rfl _ _ rfl rfl _ _ (hr _) ?_)
  go_ret
  refine ⟨_, rfl, ?_, ?_⟩
  · refine OwnS.keep (w := W.alloc _) ?_ (below_drewN (Below.refl _ _) 1)
    exact World.ownsRow_made W _ G (Nat.le_refl _) (by unfold maxLen; omega) (by rw [Array.size_append, size_zeroCells, size_zeroCells]; show n * 1 + (G - n) * 1 = G * 1; omega)
  · exact below_drewN (bnew (Below.refl _ W)) 1
set_option maxRecDepth 100000 in
set_option maxHeartbeats 8000000 in
theorem slices_ConcatS {bs : Nat} {T : TypeId} (g1 o1 g2 o2 g3 o3 n1 c1 n2 c2 n3 c3 : Nat) (L1 L2 L3 : List ByteArray) (W : World) (hx : Bx W bs T #[.slice (some ⟨g1, o1, none⟩) n1 c1, .slice (some ⟨g2, o2, none⟩) n2 c2, .slice (some ⟨g3, o3, none⟩) n3 c3]) (h1 : n1 = L1.length) (h2 : n2 = L2.length) (h3 : n3 = L3.length)
    (r1 : RowB W ⟨g1, o1, none⟩ L1) (r2 : RowB W ⟨g2, o2, none⟩ L2) (r3 : RowB W ⟨g3, o3, none⟩ L3) (hpos : 0 < n1 + n2 + n3) (hle : n1 + n2 + n3 ≤ 1000000) :
    Calls Tryz.prog 43 #[.slice (some ⟨bs, 0, none⟩) 3 3] W fun e w' => ∃ v, e = .returned v ∧ OwnS W.heap.size w' v (L1 ++ (L2 ++ L3)) ∧ Below W.heap.size W w' := by
  have H1 := Lib.hid h1
  have H2 := Lib.hid h2
  have H3 := Lib.hid h3
  have R1 := Lib.hid r1
  have R2 := Lib.hid r2
  have R3 := Lib.hid r3
  have hbl := hx.lt
  obtain ⟨q, f, l⟩ := hx.all
  have X := Lib.hid hx
  clear h1 h2 h3 r1 r2 r3 hx
  go_enter Tryz.func43, Tryz.ntmps43
  go_wp2_with fail
  go_loopw [3, 11] (fun s3 i wr => ((i = .int .i64 0 ∧ s3 = .int .i64 ((0 : Nat) : Int)) ∨ (i = .int .i64 1 ∧ s3 = .int .i64 ((n1 : Nat) : Int)) ∨ (i = .int .i64 2 ∧ s3 = .int .i64 ((n1 + n2 : Nat) : Int)) ∨ (i = .int .i64 3 ∧ s3 = .int .i64 ((n1 + n2 + n3 : Nat) : Int))) ∧ Below W.heap.size W wr) (fun _ i _ => 3 - (intOf i).toNat)
  case atStart => exact ⟨.inl ⟨rfl, rfl⟩, Below.refl _ _⟩
  case round =>
    clear q f l
    obtain ⟨hrel, B⟩ := hrel
    have xk := X.out.keep B
    obtain ⟨q, f, l⟩ := xk.all
    rcases hrel with ⟨rfl, rfl⟩ | ⟨rfl, rfl⟩ | ⟨rfl, rfl⟩ | ⟨rfl, rfl⟩
    · go_wp2_with fail
      go_roundw
      case rel => exact ⟨.inr (.inl ⟨rfl, by first | rfl | (go_num; done) | simp⟩), B⟩
      case measure => simp [intOf]
    · go_wp2_with fail
      go_roundw
      case rel => exact ⟨.inr (.inr (.inl ⟨rfl, by first | rfl | (go_num; done) | simp⟩)), B⟩
      case measure => simp [intOf]
    · go_wp2_with fail
      go_roundw
      case rel => exact ⟨.inr (.inr (.inr ⟨rfl, by first | rfl | (go_num; done) | simp⟩)), B⟩
      case measure => simp [intOf]
    · go_wp2_with fail
      refine (slices_GrowS (n1 + n2 + n3) _ hpos hle).mono ?_
      rintro e w2 ⟨v, rfl, ho, hb⟩
      have hsz := B.size
      have B2 := bcall B hb
      have Ho : Hid (OwnS W.heap.size w2 v []) := Lib.hid (own_monoS' ho hsz)
      clear hb ho q f l xk B
      have xk := X.out.keep B2
      obtain ⟨q, f, l⟩ := xk.all
      go_wp2_with fail
      go_loopw [6, 27] (fun s6 i wr => ((i = .int .i64 0 ∧ OwnS W.heap.size wr s6 []) ∨ (i = .int .i64 1 ∧ OwnS W.heap.size wr s6 L1) ∨ (i = .int .i64 2 ∧ OwnS W.heap.size wr s6 (L1 ++ L2)) ∨ (i = .int .i64 3 ∧ OwnS W.heap.size wr s6 (L1 ++ (L2 ++ L3)))) ∧ Below W.heap.size W wr) (fun _ i _ => 3 - (intOf i).toNat)
      case atStart => exact ⟨.inl ⟨rfl, Ho.out⟩, B2⟩
      case round =>
        clear q f l Ho xk B2
        obtain ⟨hrel, B⟩ := hrel
        have xk := X.out.keep B
        have hsz2 := B.size
        obtain ⟨q, f, l⟩ := xk.all
        rcases hrel with ⟨rfl, ho⟩ | ⟨rfl, ho⟩ | ⟨rfl, ho⟩ | ⟨rfl, ho⟩
        · go_upto_region 13 with fail
          go_wp2_with (at_builtin; refine strs_append (B := W.heap.size) rfl (.tmp 31) (.tmp 32) rfl rfl ⟨g1, o1, none⟩ n1 c1 rfl H1.out ho (R1.out.keep B).2 ?c1a hsz2 ?c1b)
          case c1a =>
            have h1 := H1.out
            have h2 := H2.out
            have h3 := H3.out
            first | (simp only [List.length_append, List.length_nil]; omega) | (simp; omega) | omega
          intro v5 w5 ho5 hb5
          have hb5 := hb5 _ _ (Nat.le_refl _) B
          have HO5 : Hid (OwnS W.heap.size w5 v5 L1) := Lib.hid ho5
          clear ho5 q f l xk
          go_wp2_with fail
          go_roundw
          case rel => exact ⟨.inr (.inl ⟨rfl, HO5.out⟩), hb5⟩
          case measure => simp [intOf]
        · go_upto_region 13 with fail
          go_wp2_with (at_builtin; refine strs_append (B := W.heap.size) rfl (.tmp 31) (.tmp 32) rfl rfl ⟨g2, o2, none⟩ n2 c2 rfl H2.out ho (R2.out.keep B).2 ?c2a hsz2 ?c2b)
          case c2a =>
            have h1 := H1.out
            have h2 := H2.out
            have h3 := H3.out
            first | (simp only [List.length_append, List.length_nil]; omega) | (simp; omega) | omega
          intro v5 w5 ho5 hb5
          have hb5 := hb5 _ _ (Nat.le_refl _) B
          have HO5 : Hid (OwnS W.heap.size w5 v5 (L1 ++ L2)) := Lib.hid ho5
          clear ho5 q f l xk
          go_wp2_with fail
          go_roundw
          case rel => exact ⟨.inr (.inr (.inl ⟨rfl, HO5.out⟩)), hb5⟩
          case measure => simp [intOf]
        · go_upto_region 13 with fail
          go_wp2_with (at_builtin; refine strs_append (B := W.heap.size) rfl (.tmp 31) (.tmp 32) rfl rfl ⟨g3, o3, none⟩ n3 c3 rfl H3.out ho (R3.out.keep B).2 ?c3a hsz2 ?c3b)
          case c3a =>
            have h1 := H1.out
            have h2 := H2.out
            have h3 := H3.out
            first | (simp only [List.length_append, List.length_nil]; omega) | (simp; omega) | omega
          intro v5 w5 ho5 hb5
          have hb5 := hb5 _ _ (Nat.le_refl _) B
          have HO5 : Hid (OwnS W.heap.size w5 v5 (L1 ++ (L2 ++ L3))) := Lib.hid ho5
          clear ho5 q f l xk
          go_wp2_with fail
          go_roundw
          case rel => exact ⟨.inr (.inr (.inr ⟨rfl, HO5.out⟩)), hb5⟩
          case measure => simp [intOf]
        · have HO := Lib.hid ho
          clear ho
          go_wp2_with fail
          go_ret
          exact ⟨_, rfl, HO.out, B⟩
end Go.Proofs.YtilninaminaadaaGreatDoor
