/- What the law on Join keeps: the gathered parts; alike of what two Joins give. -/
import Derived.Test.YtccbhghpghijiaaJnC
import Derived.Test.YtccbhghpghijiaaJnT
import Derived.Test.YtccbhghpghijiaaJnA
import Derived.Test.YtccbhghpghijiaaJnB
import Derived.Test.YtccbhghpghijiaaSame
import Derived.Deep.AppendLies
namespace Go.Proofs.Ytccbhghpghijiaa
open Go.RowKit

theorem frame_JoinR (x y w h : Int) (v : Value) (L : List Fr) (W : World) (hs : SlF W v L) : Calls Try.prog 6 #[.agg #[.int .i64 x, .int .i64 y, .int .i64 w, .int .i64 h], v] W (JoinR x y w h L W) := by
  by_cases h0 : checkRegion x y w h = 0
  · exact frame_Join_ok x y w h v L W hs h0
  · exact frame_Join_bad x y w h v L W h0
theorem ref_JoinR (x y w h : Int) (v : Value) (L : List Fr) (W : World) (hs : SlF W v L) : Calls Try.prog 7 #[.agg #[.int .i64 x, .int .i64 y, .int .i64 w, .int .i64 h], v] W (JoinR x y w h L W) := by
  by_cases h0 : checkRegion x y w h = 0
  · exact ref_Join_ok x y w h v L W hs h0
  · exact ref_Join_bad x y w h v L W h0
/-- A frame that Join gave, with error er; V: what a right one has. -/
def JP (w : World) (V : List Nat) (er a b c d : Int) (sa : Option Addr) (sn sc : Nat) (x y ww hh : Int) : Prop :=
  (er ≠ 0 ∧ a = 0 ∧ b = 0 ∧ c = 0 ∧ d = 0 ∧ sa = none ∧ sn = 0 ∧ sc = 0) ∨ (er = 0 ∧ a = x ∧ b = y ∧ c = ww ∧ d = hh ∧ ∃ g, sa = some ⟨g, 0, none⟩ ∧ sn = V.length ∧ Rd w g 0 V)
theorem JP.keep {w w' : World} {V : List Nat} {er a b c d : Int} {sa : Option Addr} {sn sc : Nat} {x y ww hh : Int} (h : JP w V er a b c d sa sn sc x y ww hh) (hb : Below w.heap.size w w') : JP w' V er a b c d sa sn sc x y ww hh := by
  rcases h with h | ⟨h1, h2, h3, h4, h5, g, h6, h7, h8⟩
  · exact .inl h
  · exact .inr ⟨h1, h2, h3, h4, h5, g, h6, h7, h8.keep hb⟩
/-- What Join gives, in one form. -/
theorem JoinR.form {x y w h : Int} {L : List Fr} {W : World} {e : Ending} {w' : World} (hj : JoinR x y w h L W e w') :
    ∃ (a b c d : Int) (sa : Option Addr) (sn sc : Nat), e = .returned (.tuple #[.agg #[.int .i64 a, .int .i64 b, .int .i64 c, .int .i64 d, .slice sa sn sc], .int .i64 (joinErr x y w h L)]) ∧ JP w' (madeL (outP x y w.toNat L L.length) (4 * (w.toNat * h.toNat))) (joinErr x y w h L) a b c d sa sn sc x y w h ∧ Below W.heap.size W w' := by
  obtain ⟨hj, hb⟩ := hj
  rcases hj with ⟨h0, rfl⟩ | ⟨h0, g, c, rfl, hc, hg, hrd⟩
  · exact ⟨0, 0, 0, 0, none, 0, 0, rfl, .inl ⟨h0, rfl, rfl, rfl, rfl, rfl, rfl, rfl⟩, hb⟩
  · rw [h0]
    exact ⟨x, y, w, h, some ⟨g, 0, none⟩, _, c, rfl, .inr ⟨rfl, rfl, rfl, rfl, rfl, g, rfl, by rw [madeL_len], hrd⟩, hb⟩
set_option maxRecDepth 100000 in
set_option maxHeartbeats 2000000 in
theorem law_alikeJ {W : World} {V : List Nat} {er a b c d a' b' c' d' x y ww hh : Int} {sa sa' : Option Addr} {sn sc sn' sc' : Nat} (hV : er = 0 → V.length ≤ 1000000) (h1 : JP W V er a b c d sa sn sc x y ww hh) (h2 : JP W V er a' b' c' d' sa' sn' sc' x y ww hh) :
    Calls Try.prog 8 #[.agg #[.int .i64 a, .int .i64 b, .int .i64 c, .int .i64 d, .slice sa sn sc], .int .i64 er, .agg #[.int .i64 a', .int .i64 b', .int .i64 c', .int .i64 d', .slice sa' sn' sc'], .int .i64 er] W fun e w' => e = .returned (.bool true) ∧ Below W.heap.size W w' := by
  rcases h1 with ⟨h0, rfl, rfl, rfl, rfl, rfl, rfl, rfl⟩ | ⟨he, ea, eb, ec, ed, g, esa, esn, hr⟩
  · rcases h2 with ⟨_, rfl, rfl, rfl, rfl, rfl, rfl, rfl⟩ | ⟨h2, _⟩
    · have hb : (er == 0) = false := by simpa using h0
      have he : (er != er) = false := bne_self_eq_false _
      have hn : (er != 0) = true := by simpa using h0
      clear h0
      go_enter Try.func8, Try.ntmps8
      go_wp2_with fail
      go_ret
      exact ⟨rfl, bnew (bnew (Below.refl _ W))⟩
    · exact absurd h2 h0
  · rcases h2 with ⟨h2, _⟩ | ⟨_, ea', eb', ec', ed', g', esa', esn', hr'⟩
    · exact absurd he h2
    · replace hV := hV he
      rw [he, ea, eb, ec, ed, esa, esn, ea', eb', ec', ed', esa', esn']
      clear he ea eb ec ed esa esn ea' eb' ec' ed' esa' esn'
      obtain ⟨n, hn⟩ : ∃ n, n = V.length := ⟨_, rfl⟩
      rw [← hn] at hV ⊢
      have Hn := Lib.hid hn
      have R1 := Lib.hid hr
      have R2 := Lib.hid hr'
      clear hn hr hr'
      go_enter Try.func8, Try.ntmps8
      go_upto_region 1 with fail
      refine name_world ?_
      intro w0 hw0
      have B1 : Below W.heap.size W w0 := by rw [hw0]; exact bnew (bnew (Below.refl _ W))
      have x4 : Bx w0 W.heap.size 26 #[.int .i64 x, .int .i64 y, .int .i64 ww, .int .i64 hh, .slice (some ⟨g, 0, none⟩) n sc] := by rw [hw0]; exact (Bx.new _ _ _).alloc _
      have x6 : Bx w0 (W.heap.size + 1) 26 #[.int .i64 x, .int .i64 y, .int .i64 ww, .int .i64 hh, .slice (some ⟨g', 0, none⟩) n sc'] := by rw [hw0]; exact Bx.at _ (by simp)
      clear hw0
      obtain ⟨q4, f4, l4⟩ := x4.all
      obtain ⟨q6, f6, l6⟩ := x6.all
      go_wp2_with fail
      refine (ref_SameFrame _ _ _ _ _ _ _ _ _ _ _ V _ hV Hn.out.symm (R1.out.keep B1) (R2.out.keep B1)).mono ?_
      rintro e w1 ⟨rfl, hb1⟩
      go_wp2_with fail
      go_ret
      exact ⟨rfl, bcall B1 hb1⟩

theorem rd_block {w w' : World} {g o : Nat} {xs : List Nat} (h : Rd w g o xs) (hb : w'.heap[g]? = w.heap[g]?) (hs : w.heap.size ≤ w'.heap.size) : Rd w' g o xs :=
  ⟨Nat.lt_of_lt_of_le h.1 hs, fun k hk => by rw [World.cell?_of_block (w := w) (a := ⟨g, o + k, none⟩) hb]; exact h.2 k hk⟩
/-- What append leaves. -/
structure AppR (B : Nat) (w w' : World) (v v' : Value) (L : List Fr) : Prop where
  own : OutF B w' v' L
  keeps : ∀ b, b < w.heap.size → v.ownBlock ≠ some b → w'.heap[b]? = w.heap[b]?
  at_ : ∃ g, v'.ownBlock = some g ∧ (v.ownBlock = some g ∨ g = w.heap.size)
  below : ∀ W0, Below B W0 w → Below B W0 w'
  size : w.heap.size ≤ w'.heap.size
theorem fr_append1 {B : Nat} {w : World} {L : List Fr} {f : Fr} {v : Value} {ops : Array Oper} {rest : List Oper} {o : Oper} {a : Act} {Q : Exit → Act → World → Prop} (hgd : o.guard = none) (s z : Operand)
    (ho : o.op = .call { callee := .builtin .append, args := #[s, z], argTypes := #[27, 27] }) (hs : a.eval s = v) (gb c : Nat) (hx : a.eval z = .slice (some ⟨gb, 0, none⟩) 1 c) (hm : OutF B w v L)
    (hc : Bx w gb 26 (frC f).toArray) (hl : L.length ≤ 100000) (hB : B ≤ w.heap.size)
    (h : ∀ v' w', AppR B w w' v v' (L ++ [f]) → wpList Try.prog ops Q rest (a.put o.dst v') w') :
    wpList Try.prog ops Q (o :: rest) a w := by
  obtain ⟨i0, hi, hz0, hz1, hz2⟩ := info_parts infoFr
  have hml : maxLen = 9223372036854775807 := rfl
  have hf1 : frCells [f] = frC f := by simp [frCells]
  refine wpList_append_lies w hgd s z 27 ho B 26 i0 (.agg #[.int .i64 0, .int .i64 0, .int .i64 0, .int .i64 0, .slice none 0 0]) 5 56 Try.underlying27 hi hz0 hz1 hz2 rfl (by decide) v L.length (frCells L) hs hm ⟨gb, 0, none⟩ 1 c (frCells [f]) hx (frCells_len [f]) ?_ frCells_one (by omega) (by omega) (by omega) hB _ rfl ?_
  · intro j u hj
    rw [hf1] at hj
    have := hc.all.1 j
    rw [show ((⟨gb, 0, none⟩ : Addr).add j) = ⟨gb, j, none⟩ by simp [Addr.add]; intro e; exact e.symm, this]
    simpa using hj
  · intro g' cap' w' hown hgrow hat hlt
    refine h _ w' ⟨?_, (fun b hb hne => hgrow.block b hb (fun e => hne e.symm)), ⟨g', rfl, hat⟩, (fun W0 hb => ?_), hgrow.size⟩
    · unfold OutF
      rw [frCells_append, List.length_append]
      exact hown
    · refine hb.grown hgrow hB (fun k hk => ?_)
      exact (World.ownsRow.lt hm k hk).1
/-- The parts that are gathered: tile by tile, each with singles of its own. -/
def PSt (x y : Int) (w h : Nat) (n : Int) (xs : List Nat) (B : Nat) (wr : World) (v : Value) (L : List Fr) : Prop :=
  OutF B wr v L ∧ (∀ m, m < L.length → IsPart x y w h n xs m (L.getD m default)) ∧
    ∀ m, m < L.length → ∃ g, (L.getD m default).a = some ⟨g, 0, none⟩ ∧ B ≤ g ∧ (L.getD m default).c = (L.getD m default).V.length ∧ 0 < (L.getD m default).V.length ∧ (L.getD m default).V.length ≤ 1000000 ∧ Rd wr g 0 (L.getD m default).V ∧ v.ownBlock ≠ some g
theorem PSt.keep {x y : Int} {w h : Nat} {n : Int} {xs : List Nat} {B : Nat} {wr w' : World} {v : Value} {L : List Fr} (s : PSt x y w h n xs B wr v L) (hb : Below wr.heap.size wr w') : PSt x y w h n xs B w' v L := by
  obtain ⟨h1, h2, h3⟩ := s
  refine ⟨h1.below hb, h2, fun m hm => ?_⟩
  obtain ⟨g, e1, e0, e2, e3, e4, e5, e6⟩ := h3 m hm
  exact ⟨g, e1, e0, e2, e3, e4, e5.keep hb, e6⟩
theorem getD_append_lt {L : List Fr} {f : Fr} {m : Nat} (h : m < L.length) : (L ++ [f]).getD m default = L.getD m default := by
  simp [List.getD, List.getElem?_append_left h]
theorem getD_append_eq {L : List Fr} {f : Fr} : (L ++ [f]).getD L.length default = f := by simp [List.getD]
theorem PSt.add {x y : Int} {w h : Nat} {n : Int} {xs : List Nat} {B : Nat} {wr w' : World} {v v' : Value} {L : List Fr} {f : Fr} {g : Nat} (s : PSt x y w h n xs B wr v L) (ho : OutF B w' v' (L ++ [f])) (hp : IsPart x y w h n xs L.length f)
    (hk : ∀ b, b < wr.heap.size → v.ownBlock ≠ some b → w'.heap[b]? = wr.heap[b]?) (hv : ∃ g, v'.ownBlock = some g ∧ (v.ownBlock = some g ∨ g = wr.heap.size)) (hs : wr.heap.size ≤ w'.heap.size)
    (ha : f.a = some ⟨g, 0, none⟩) (hB : B ≤ g) (hc : f.c = f.V.length) (h0 : 0 < f.V.length) (h1 : f.V.length ≤ 1000000) (hr : Rd wr g 0 f.V) (hne : v.ownBlock ≠ some g) : PSt x y w h n xs B w' v' (L ++ [f]) := by
  obtain ⟨h2, h3, h4⟩ := s
  obtain ⟨gv, hv1, hv2⟩ := hv
  have hv' : ∀ b, b < wr.heap.size → v.ownBlock ≠ some b → v'.ownBlock ≠ some b := fun b hb hne e => by
    rw [hv1] at e
    injection e with e
    subst e
    rcases hv2 with h5 | h5
    · exact hne h5
    · omega
  refine ⟨ho, fun m hm => ?_, fun m hm => ?_⟩
  · rw [List.length_append, List.length_singleton] at hm
    by_cases hl : m < L.length
    · rw [getD_append_lt hl]; exact h3 m hl
    · obtain rfl : m = L.length := by omega
      rw [getD_append_eq]; exact hp
  · rw [List.length_append, List.length_singleton] at hm
    by_cases hl : m < L.length
    · rw [getD_append_lt hl]
      obtain ⟨g', e1, e0, e2, e3, e4, e5, e6⟩ := h4 m hl
      exact ⟨g', e1, e0, e2, e3, e4, rd_block e5 (hk g' e5.lt e6) hs, hv' g' e5.lt e6⟩
    · obtain rfl : m = L.length := by omega
      rw [getD_append_eq]
      exact ⟨g, ha, hB, hc, h0, h1, rd_block hr (hk g hr.lt hne) hs, hv' g hr.lt hne⟩
end Go.Proofs.Ytccbhghpghijiaa
