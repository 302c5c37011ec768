/- key.compared over a window of three by three, in two pictures nine wide with one row of singles. -/
import Derived.Test.YtoffnmpnhddaiaaAbs
import Derived.Test.YtoffnmpnhddaiaaMade
import Derived.Test.YtoffnmpnhddaiaaSum
namespace Go.Proofs.Ytoffnmpnhddaiaa
open Go.RowKit

/-- The gap of two singles, where every step of it is a closed word. -/
def gapB (p q : Nat) : Option Nat :=
  if canon p = canon q then some 0 else (floatBits .sub .f32 p q).bind fun d => (floatToFloatBits .f32 d .f64).bind fun r1 => (floatToFloatBits .f64 (bits .andNot .u64 r1 9223372036854775808).toNat .f32).map canon

theorem gapB_cases {p q g : Nat} (h : gapB p q = some g) : (canon p = canon q ∧ g = 0) ∨ (canon p ≠ canon q ∧ ∃ d r1 r3, floatBits .sub .f32 p q = some d ∧ floatToFloatBits .f32 d .f64 = some r1 ∧ floatToFloatBits .f64 (bits .andNot .u64 r1 9223372036854775808).toNat .f32 = some r3 ∧ canon r3 = g) := by
  unfold gapB at h
  split at h
  · rename_i hc
    exact .inl ⟨hc, by simpa using h.symm⟩
  · rename_i hc
    obtain ⟨d, h1, h2⟩ := Option.bind_eq_some_iff.1 h
    obtain ⟨r1, h3, h4⟩ := Option.bind_eq_some_iff.1 h2
    obtain ⟨r3, h5, h6⟩ := Option.map_eq_some_iff.1 h4
    exact .inr ⟨hc, d, r1, r3, h1, h3, h5, h6⟩
theorem fres_some {op : BinOp} {x y r : Nat} (h : floatBits op .f32 x y = some r) (w : World) : fres op .f32 x y w = r := by simp [fres, h]
theorem fdr_some {op : BinOp} {x y r : Nat} (h : floatBits op .f32 x y = some r) : fdr op .f32 x y = 0 := by simp [fdr, h]

/-- What compared has after n gaps. -/
def CmpInv (W : World) (fx fy sx sy : Int) (b : Nat) (G : Nat → Nat) (n : Nat) (wr : World) (v : Value) : Prop :=
  Bx wr W.heap.size 26 #[.int .i64 fx, .int .i64 fy, .int .i64 9, .int .i64 9, .slice (some ⟨b, 0, none⟩) 324 324] ∧
  Bx wr (W.heap.size + 1) 26 #[.int .i64 (fx + sx), .int .i64 (fy + sy), .int .i64 9, .int .i64 9, .slice (some ⟨b, 0, none⟩) 324 324] ∧
  Bx wr (W.heap.size + 1 + 1) 23 #[.int .i64 (fx + 3), .int .i64 (fy + 3), .int .i64 3, .int .i64 3] ∧
  wr.ownsRow (W.heap.size + 3) 33 1 v n (((List.range n).map G).map (Value.float .f32)) ∧ Below W.heap.size W wr

theorem CmpInv.own {W : World} {fx fy sx sy : Int} {b : Nat} {G : Nat → Nat} {n : Nat} {wr : World} {v : Value} (h : CmpInv W fx fy sx sy b G n wr v) :
    wr.ownsRow (W.heap.size + 3) 33 1 v n (((List.range n).map G).map (Value.float .f32)) := h.2.2.2.1
theorem CmpInv.owd {W : World} {fx fy sx sy : Int} {b : Nat} {G : Nat → Nat} {n : Nat} {wr : World} {v : Value} (h : CmpInv W fx fy sx sy b G n wr v) (q : Nat) (ob : Obj) :
    ((wr.drewN q).alloc ob).ownsRow (W.heap.size + 3) 33 1 v n (((List.range n).map G).map (Value.float .f32)) := World.ownsRow.alloc (w := wr.drewN q) h.own ob
theorem CmpInv.size {W : World} {fx fy sx sy : Int} {b : Nat} {G : Nat → Nat} {n : Nat} {wr : World} {v : Value} (h : CmpInv W fx fy sx sy b G n wr v) : W.heap.size + 3 ≤ wr.heap.size := by
  have := h.2.2.1.lt; omega
theorem CmpInv.grow {W : World} {fx fy sx sy : Int} {b : Nat} {G : Nat → Nat} {n : Nat} {wr : World} {v : Value} (h : CmpInv W fx fy sx sy b G n wr v) (q d : Nat) (hd : d = G n) (ob : Obj) {w1 : World} {v' : Value}
    (how : w1.ownsRow (W.heap.size + 3) 33 1 v' (n + 1) ((List.range n).map (Value.float .f32 ∘ G) ++ [.float .f32 d])) (hg : ((wr.drewN q).alloc ob).grownBy w1 v.ownBlock) : CmpInv W fx fy sx sy b G (n + 1) w1 v' := by
  have hsz := h.size
  obtain ⟨z0, z1, z2, hown, hbl⟩ := h
  have hlt := fun k (e : v.ownBlock = some k) => (hown.lt k e).1
  have hE : Below wr.heap.size wr ((wr.drewN q).alloc ob) := (below_drewN (Below.refl _ _) q).alloc (Nat.le_refl _) ob
  refine ⟨(z0.keep hE).grown hg (fun e => by have := hlt _ e; omega), (z1.keep hE).grown hg (fun e => by have := hlt _ e; omega), (z2.keep hE).grown hg (fun e => by have := hlt _ e; omega), ?_, ?_⟩
  · subst hd
    rw [List.range_succ, List.map_append, List.map_append, List.map_map]
    exact how
  · exact (hbl.trans (hE.mono (by omega))).grown hg (by have := hE.size; omega) (fun k hk => by have := hlt k hk; omega)

set_option maxRecDepth 100000 in
set_option maxHeartbeats 2000000 in
theorem key_compared (fx fy sx sy : Int) (px py b : Nat) (xs : List Nat) (G : Nat → Nat) (W : World) (hx1 : -10000 ≤ fx) (hx2 : fx ≤ 10000) (hy1 : -10000 ≤ fy) (hy2 : fy ≤ 10000) (hs1 : -10 ≤ sx) (hs2 : sx ≤ 10) (ht1 : -10 ≤ sy) (ht2 : sy ≤ 10)
    (hpx : px ≤ 6) (hpy : py ≤ 6) (hxs : xs.length = 324) (hrd : Rd W b 0 xs)
    (hG : ∀ j i c, j < 3 → i < 3 → c < 3 → gapB (xs.getD (4 * ((3 + j) * 9 + (3 + i)) + c) 0) (xs.getD (4 * ((py + j) * 9 + (px + i)) + c) 0) = some (G (3 * (3 * j + i) + c))) :
    Calls Try.prog 125 #[.agg #[.int .i64 fx, .int .i64 fy, .int .i64 9, .int .i64 9, .slice (some ⟨b, 0, none⟩) 324 324], .agg #[.int .i64 (fx + sx), .int .i64 (fy + sy), .int .i64 9, .int .i64 9, .slice (some ⟨b, 0, none⟩) 324 324], .agg #[.int .i64 (fx + 3), .int .i64 (fy + 3), .int .i64 3, .int .i64 3], .int .i64 (3 - (px : Int) - sx), .int .i64 (3 - (py : Int) - sy)] W fun e w' =>
      e = .returned (.float .f32 (fop .quo (sumC 27 ((List.range 27).map G)) (floatOfInt .f32 27))) ∧ Below W.heap.size W w' := by
  obtain ⟨i0, hi, hz0, hz1, hz2⟩ := info_parts infoF
  go_enter Try.func125, Try.ntmps125
  go_wp2_with fail
  refine name_world ?_
  intro wb hwb
  have inv0 : CmpInv W fx fy sx sy b G 0 wb (.slice none 0 0) := by
    refine ⟨?_, ?_, ?_, World.ownsRow_nil _ _ _ _, ?_⟩
    · rw [hwb]; exact Bx.alloc (Bx.alloc (Bx.new _ _ _) _) _
    · rw [hwb]; exact Bx.alloc (Bx.at _ (by simp)) _
    · rw [hwb]; exact Bx.at _ (by simp)
    · rw [hwb]; exact bnew (bnew (bnew (Below.refl _ W)))
  clear hwb
  go_loopw [11, 12] (fun v s wr => ∃ j : Nat, j ≤ 3 ∧ s = .int .i64 (fy + 3 + (j : Int)) ∧ CmpInv W fx fy sx sy b G (9 * j) wr v) (fun _ s _ => (fy + 6 - intOf s).toNat)
  case atStart => exact ⟨0, by omega, by simp, inv0⟩
  case round =>
    clear inv0
    obtain ⟨j, hj, rfl, hinv⟩ := hrel
    by_cases hlt : j < 3
    · have hji : (j : Int) < 3 := by omega
      have inv1 := hinv
      obtain ⟨z0, z1, z2, hown, hbl⟩ := hinv
      obtain ⟨q2, f2, l2⟩ := z2.all
      clear hown
      go_wp2_with fail
      go_loopw [11, 13] (fun v s wr => ∃ i : Nat, i ≤ 3 ∧ s = .int .i64 (fx + 3 + (i : Int)) ∧ CmpInv W fx fy sx sy b G (3 * (3 * j + i)) wr v) (fun _ s _ => (fx + 6 - intOf s).toNat)
      case atStart => exact ⟨0, by omega, by simp, by rw [show 3 * (3 * j + 0) = 9 * j by omega]; exact inv1⟩
      case round =>
        clear inv1 q2 f2 l2 z0 z1 z2 hbl
        obtain ⟨i, hi0, rfl, hinv⟩ := hrel
        by_cases hlt2 : i < 3
        · have hii : (i : Int) < 3 := by omega
          have inv1 := hinv
          obtain ⟨z0, z1, z2, hown, hbl⟩ := hinv
          obtain ⟨q0, f0, l0⟩ := z0.all
          obtain ⟨q1, f1, l1⟩ := z1.all
          obtain ⟨q2, f2, l2⟩ := z2.all
          clear hown
          go_wp2_with fail
          have a14 : 4 * ((fy + 3 + (j : Int) - fy) * 9 + (fx + 3 + (i : Int)) - fx) = ((4 * ((3 + j) * 9 + (3 + i)) : Nat) : Int) := by omega
          have a15 : 4 * ((fy + 3 + (j : Int) - (3 - (py : Int) - sy) - (fy + sy)) * 9 + (fx + 3 + (i : Int)) - (3 - (px : Int) - sx) - (fx + sx)) = ((4 * ((py + j) * 9 + (px + i)) : Nat) : Int) := by omega
          rw [a14, a15]
          clear a14 a15
          obtain ⟨p, hp⟩ : ∃ p, p = 4 * ((3 + j) * 9 + (3 + i)) := ⟨_, rfl⟩
          obtain ⟨q, hq⟩ : ∃ q, q = 4 * ((py + j) * 9 + (px + i)) := ⟨_, rfl⟩
          have hg := fun c hc => hG j i c hlt hlt2 hc
          rw [← hp, ← hq] at hg ⊢
          have hp2 : p + 3 ≤ 324 := by omega
          have hq2 : q + 3 ≤ 324 := by omega
          clear hp hq hG q0 f0 l0 q1 f1 l1 q2 f2 l2 z0 z1 z2 hbl
          go_loopw [11, 78] (fun v s wr => ∃ c : Nat, c ≤ 3 ∧ s = .int .i64 (c : Int) ∧ CmpInv W fx fy sx sy b G (3 * (3 * j + i) + c) wr v) (fun _ s _ => (3 - intOf s).toNat)
          case atStart => exact ⟨0, by omega, by simp, inv1⟩
          case round =>
            clear inv1
            obtain ⟨c, hc, rfl, hinv⟩ := hrel
            by_cases hlt3 : c < 3
            · have hci : (c : Int) < 3 := by omega
              have inv1 := hinv
              obtain ⟨z0, z1, z2, hown, hbl⟩ := hinv
              obtain ⟨q0, f0, l0⟩ := z0.all
              obtain ⟨q1, f1, l1⟩ := z1.all
              have hgc := hg c hlt3
              have hrw := hrd.keep hbl
              have e1 := hrw.cell0 (p + c) (by rw [hxs]; omega)
              have e2 := hrw.cell0 (q + c) (by rw [hxs]; omega)
              generalize xs.getD (p + c) 0 = P at hgc e1
              generalize xs.getD (q + c) 0 = R at hgc e2
              clear hg hrw hrd hown
              rcases gapB_cases hgc with ⟨hcan, hg0⟩ | ⟨hcan, d, r1, r3, hd1, hd2, hd3, hd4⟩
              · have hce : (((canon P : Nat) : Int) != ((canon R : Nat) : Int)) = false := by simp [hcan]
                clear hgc hcan
                have Hg := Lib.hid hg0
                clear hg0
                go_wp2_with fail
                go_quiet (fail)
                go_wp2_with (first | (go_at_call 81; refine (num_Bits _ _).mono ?_; rintro e w' ⟨rfl, rfl⟩) | (at_builtin; refine wpList_append_own _ rfl (.tmp 104) (.tmp 106) 24 rfl (W.heap.size + 3) 33 i0 (.float .f32 0) 1 4 Try.underlying24 hi hz0 hz1 hz2 rfl (by decide) _ _ _ rfl (inv1.owd _ _) ⟨wr.heap.size, 0, none⟩ 1 1 [.float .f32 0] rfl rfl ?c1 ?c2 ?c3 ?c4 ?c5 ?_))
                case c1 => simpa using cell_one_new (wr.drewN _) (.float .f32 0) 33
                case c2 => intro u hu; simp at hu; subst hu; rfl
                case c3 => unfold maxLen; omega
                case c4 => omega
                case c5 => have := inv1.size; simp; omega
                · intro v' w1 hown' hgrow hnil
                  have inv2 := inv1.grow _ _ Hg.out.symm _ hown' hgrow
                  clear inv1 hown' hgrow hnil z0 z1 z2 q0 f0 l0 q1 f1 l1 e1 e2 hbl
                  go_wp2_with fail
                  go_roundw
                  case rel => exact ⟨c + 1, by omega, by go_num, inv2⟩
                  case measure => simp [intOf]; omega
              · have hce : (((canon P : Nat) : Int) != ((canon R : Nat) : Int)) = true := by simp; omega
                clear hgc hcan
                have Hg := Lib.hid hd4
                clear hd4
                have hs1 := fun w => fres_some hd1 w
                have hs2 := fdr_some hd1
                have nAbs := fun w => num_Abs d r1 r3 w hd2 hd3
                have Nab := Lib.hid nAbs
                clear hd1 hd2 hd3 nAbs
                go_wp2_with fail
                go_quiet (fail)
                go_wp2_with (first | (go_at_call 81; refine (num_Bits _ _).mono ?_; rintro e w' ⟨rfl, rfl⟩) | (go_at_call 154; refine (Nab.out _).mono ?_; rintro e w' ⟨rfl, rfl⟩) | (at_builtin; refine wpList_append_own _ rfl (.tmp 104) (.tmp 106) 24 rfl (W.heap.size + 3) 33 i0 (.float .f32 0) 1 4 Try.underlying24 hi hz0 hz1 hz2 rfl (by decide) _ _ _ rfl (inv1.owd _ _) ⟨wr.heap.size, 0, none⟩ 1 1 [.float .f32 (canon r3)] rfl rfl ?c1 ?c2 ?c3 ?c4 ?c5 ?_))
                case c1 => simpa using cell_one_new (wr.drewN _) (.float .f32 (canon r3)) 33
                case c2 => intro u hu; simp at hu; subst hu; rfl
                case c3 => unfold maxLen; omega
                case c4 => omega
                case c5 => have := inv1.size; simp; omega
                · intro v' w1 hown' hgrow hnil
                  have inv2 := inv1.grow _ _ Hg.out _ hown' hgrow
                  clear inv1 hown' hgrow hnil z0 z1 z2 q0 f0 l0 q1 f1 l1 e1 e2 hbl
                  go_wp2_with fail
                  go_roundw
                  case rel => exact ⟨c + 1, by omega, by go_num, inv2⟩
                  case measure => simp [intOf]; omega
            · have hc3 : c = 3 := by omega
              subst hc3
              go_wp2_with fail
              go_roundw
              case rel => exact ⟨i + 1, by omega, by go_num, by rw [show 3 * (3 * j + (i + 1)) = 3 * (3 * j + i) + 3 by omega]; exact hinv⟩
              case measure => simp [intOf]; omega
        · have hi3 : i = 3 := by omega
          subst hi3
          obtain ⟨q2, f2, l2⟩ := hinv.2.2.1.all
          go_wp2_with fail
          go_roundw
          case rel => exact ⟨j + 1, by omega, by go_num, by rw [show 9 * (j + 1) = 3 * (3 * j + 3) by omega]; exact hinv⟩
          case measure => simp [intOf]; omega
    · have hj3 : j = 3 := by omega
      subst hj3
      obtain ⟨q2, f2, l2⟩ := hinv.2.2.1.all
      obtain ⟨g, cp, rfl, hg, hgl, hcp⟩ := own_form hinv.own (by omega)
      have hrd2 : Rd wr g 0 ((List.range 27).map G) := rd_of_ow (n := 27) (c := cp) (B := W.heap.size + 3) (by unfold Ow; simpa using hinv.own) (by simp)
      have hbl := hinv.2.2.2.2
      clear hinv
      go_wp2_with fail
      refine (num_Sum _ _ _ _ _ _ (by simp) (by omega) hcp (by omega) hrd2).mono ?_
      rintro e w1 ⟨rfl, hb1⟩
      go_wp2_with (go_at_call 88; refine (num_Clean _ _).mono ?_; rw [canon_fres]; rintro e w2 ⟨rfl, rfl⟩)
      go_ret
      exact ⟨rfl, below_drewN (bcall hbl hb1) _⟩
end Go.Proofs.Ytoffnmpnhddaiaa
