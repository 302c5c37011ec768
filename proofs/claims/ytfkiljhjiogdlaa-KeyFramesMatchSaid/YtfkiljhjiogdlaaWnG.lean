/- slices.Clone of points, key.cloned. (printed by gen_wng.py) -/
import Derived.Test.YtfkiljhjiogdlaaWnD
import Derived.OwnWalk
namespace Go.Proofs.Ytfkiljhjiogdlaa
open Go.RowKit

def two (p : Int × Int) : List Value := [.int .i64 p.1, .int .i64 p.2]
def ptCells (ps : List (Int × Int)) : List Value := ps.flatMap two
theorem ptCells_length (ps : List (Int × Int)) : (ptCells ps).length = ps.length * 2 := by
  induction ps with
  | nil => rfl
  | cons e r ih => rw [ptCells, List.flatMap_cons, List.length_append, ← ptCells, ih, List.length_cons]; simp [two]; omega
theorem ptCells_get (ps : List (Int × Int)) : ∀ (k r : Nat), k < ps.length → r < 2 → (ptCells ps)[k * 2 + r]? = (two (ps.getD k default))[r]? := by
  induction ps with
  | nil => intro k r h; simp at h
  | cons e t ih =>
    intro k r hk hr
    have hl : (two e).length = 2 := rfl
    rw [ptCells, List.flatMap_cons, ← ptCells]
    cases k with
    | zero => rw [List.getElem?_append_left (by rw [hl]; omega)]; simp
    | succ k =>
      rw [List.getElem?_append_right (by rw [hl]; omega), hl, show (k + 1) * 2 + r - 2 = k * 2 + r by omega, ih k r (by simpa using hk) hr]
      simp
theorem PtAt.two {w : World} {b i : Nat} {p : Int × Int} (h : PtAt w b i p) (r : Nat) (u : Value) (hr : (two p)[r]? = some u) : w.cell? ⟨b, i + r, none⟩ = some u := by
  obtain ⟨q0, q1⟩ := h
  match r, hr with
  | 0, hr => cases hr; exact q0
  | 1, hr => cases hr; exact q1
  | n + 2, hr => simp [Go.Proofs.Ytfkiljhjiogdlaa.two] at hr
def HoldsP (cs : Array Value) (ps : List (Int × Int)) : Prop := ∀ k, k < ps.length → cs[k * 2]? = some (.int .i64 (ps.getD k default).1) ∧ cs[k * 2 + 1]? = some (.int .i64 (ps.getD k default).2)
theorem HoldsP.slP {w : World} {g : Nat} {T : TypeId} {cs : Array Value} {ps : List (Int × Int)} (h : HoldsP cs ps) (hx : Bx w g T cs) (hl : ps.length ≤ maxLen) (c : Nat) : SlP w (.slice (some ⟨g, 0, none⟩) ps.length c) ps := by
  obtain ⟨q, _, l⟩ := hx.all
  refine ⟨_, c, rfl, hl, .inr ⟨g, 0, rfl, l, fun k hk => ?_⟩⟩
  obtain ⟨a, b⟩ := h k hk
  exact ⟨by rw [q, Nat.zero_add]; exact a, by rw [q, Nat.zero_add]; exact b⟩
theorem holdsP_clone {cur : Array Value} {ps : List (Int × Int)} (h : cur.toList.take (ps.length * 2) = ptCells ps) : HoldsP cur ps := by
  intro k hk
  have a := ptCells_get ps k 0 hk (by omega)
  have b := ptCells_get ps k 1 hk (by omega)
  rw [← h, List.getElem?_take_of_lt (by omega), Array.getElem?_toList] at a b
  exact ⟨a, b⟩
theorem cloneP_open {w : World} {B : Nat} {T : TypeId} {v : Value} {ps : List (Int × Int)} (h : w.ownsRow B T 2 v ps.length (ptCells ps)) (hne : ps ≠ []) :
    ∃ g c cs, v = .slice (some ⟨g, 0, none⟩) ps.length c ∧ B ≤ g ∧ Bx w g T cs ∧ ps.length ≤ c ∧ c ≤ maxLen ∧ HoldsP cs ps := by
  obtain ⟨_, h | ⟨g, c, cur, hv, hg, hx, h1, h2, _, h3⟩⟩ := h
  · exact absurd (List.eq_nil_of_length_eq_zero h.2) hne
  · exact ⟨g, c, cur, hv, hg, hx, h1, h2, holdsP_clone h3⟩
theorem cloneP_any {w : World} {B : Nat} {T : TypeId} {v : Value} {ps : List (Int × Int)} (h : w.ownsRow B T 2 v ps.length (ptCells ps)) (hl : ps.length ≤ maxLen) : SlP w v ps := by
  by_cases hne : ps = []
  · subst hne
    obtain ⟨_, h | ⟨g, c, cur, hv, hg, hx, h1, h2, _, h3⟩⟩ := h
    · obtain ⟨h, _⟩ := h
      exact ⟨_, _, h, by simp [maxLen], .inl rfl⟩
    · exact ⟨_, c, hv, by simp [maxLen], .inl rfl⟩
  · obtain ⟨g, c, cs, rfl, _, hx, _, _, hH⟩ := cloneP_open h hne
    exact hH.slP hx hl c


set_option maxRecDepth 100000 in
set_option maxHeartbeats 2000000 in
theorem slices_CloneP (ad : Addr) (c : Nat) (ps : List (Int × Int)) (W : World) (hN : ps.length ≤ 1000) (hat : ps = [] ∨ ∃ b o, ad = ⟨b, o, none⟩ ∧ ∀ k, k < ps.length → PtAt W b (o + k * 2) (ps.getD k default)) :
    Calls Try.prog 49 #[.slice (some ad) ps.length c] W fun e w' => ∃ v', e = .returned v' ∧ w'.ownsRow W.heap.size 71 2 v' ps.length (ptCells ps) ∧ Below W.heap.size W w' := by
  have hinfo : (Try.prog.info? 71).map (fun i => (i.zero, i.size, i.bytes)) = some (some (.agg #[.int .i64 0, .int .i64 0]), 2, 16) := by kernel_rfl
  obtain ⟨i0, hi, hz0, hz1, hz2⟩ := info_parts hinfo
  have q22 : ∀ (w : World) (a : Option Addr) (n c n' c' : Nat), (binOp .eql 23 (.slice a n c) (.slice none n' c')).run Try.prog w = .ok (.bool a.isNone) w := fun w a n c n' c' => Lib.run_eql_slice_nil w _ _ a n c n' c' Try.underlying23
  have A := Lib.hid hat
  clear hat
  generalize hn : ps.length = n at hN ⊢
  have Hn := Lib.hid hn
  clear hn
  obtain ⟨b, o, fl⟩ := ad
  go_enter Try.func49, Try.ntmps49
  go_wp2_with (at_builtin; refine wpList_append_own _ rfl _ _ 23 rfl W.heap.size 71 i0 (.agg #[.int .i64 0, .int .i64 0]) 2 16 Try.underlying23 hi hz0 hz1 hz2 rfl (by decide) _ _ _ rfl (World.ownsRow_made W #[] 0 (Nat.le_refl _) (Nat.zero_le _) rfl) ⟨b, o, fl⟩ n c (ptCells ps) rfl ?qc1 ?qc2 ?qc3 ?qc4 ?qc5 ?qc6 ?_)
  case qc1 => rw [ptCells_length, Hn.out]
  case qc2 =>
    intro j u hj
    have hlt := (List.getElem?_eq_some_iff.1 hj).1
    rw [ptCells_length] at hlt
    rcases A.out with h0 | ⟨b', o', hbo, hA⟩
    · rw [h0] at hlt; simp at hlt
    cases hbo
    have hk : j / 2 < ps.length := by omega
    have hr : j % 2 < 2 := by omega
    have hjj : j = j / 2 * 2 + j % 2 := by omega
    rw [hjj, ptCells_get ps _ _ hk hr] at hj
    rw [Addr.add_lit]
    refine Lib.cell?_alloc_some _ ?_
    have := (hA _ hk).two _ _ hj
    rw [hjj, ← Nat.add_assoc]; exact this
  case qc3 =>
    intro u hu
    obtain ⟨e, _, he⟩ := List.mem_flatMap.1 hu
    simp only [two, List.mem_cons, List.mem_nil_iff, or_false] at he
    rcases he with rfl | rfl <;> rfl
  case qc4 => unfold maxLen; omega
  case qc5 => omega
  case qc6 => simp
  intro v' w1 hown hgrow hnil
  go_wp2
  go_ret
  refine ⟨v', rfl, by simpa using hown, ?_⟩
  exact ((Below.refl _ W).alloc (Nat.le_refl _) _).grown hgrow (by simp) (by intro k hk; simp [Value.ownBlock] at hk; omega)
set_option maxHeartbeats 2000000 in
theorem slices_CloneP_nil (W : World) (n c : Nat) : Calls Try.prog 49 #[.slice none n c] W fun e w' => e = .returned (.slice none 0 0) ∧ W = w' := by
  have q22 : ∀ (w : World) (a : Option Addr) (n c n' c' : Nat), (binOp .eql 23 (.slice a n c) (.slice none n' c')).run Try.prog w = .ok (.bool a.isNone) w := fun w a n c n' c' => Lib.run_eql_slice_nil w _ _ a n c n' c' Try.underlying23
  go_enter Try.func49, Try.ntmps49
  go_wp2_with fail
  go_ret
  exact ⟨rfl, rfl⟩
/-- The copy: of the points, in its own block. -/
def CopyP (w : World) (B : Nat) (v : Value) (ps : List (Int × Int)) : Prop :=
  (ps = [] ∧ ∃ a c, v = .slice a 0 c) ∨ (ps ≠ [] ∧ ∃ g c cs, v = .slice (some ⟨g, 0, none⟩) ps.length c ∧ B ≤ g ∧ Bx w g 71 cs ∧ c ≤ maxLen ∧ HoldsP cs ps)
theorem clone_points (v : Value) (ps : List (Int × Int)) (W : World) (hN : ps.length ≤ 1000) (hs : SlP W v ps) : Calls Try.prog 49 #[v] W fun e w' => ∃ v', e = .returned v' ∧ CopyP w' W.heap.size v' ps ∧ Below W.heap.size W w' := by
  obtain ⟨a, c, rfl, hmax, hform⟩ := hs
  cases a with
  | none =>
    refine (slices_CloneP_nil W _ _).mono ?_
    rintro e w' ⟨rfl, rfl⟩
    rcases hform with rfl | ⟨b, o, h, _⟩
    · exact ⟨_, rfl, .inl ⟨rfl, _, _, rfl⟩, Below.refl _ _⟩
    · cases h
  | some ad =>
    refine (slices_CloneP ad c ps W hN ?_).mono ?_
    · rcases hform with h | ⟨b, o, h, _, h2⟩
      · exact .inl h
      · cases h; exact .inr ⟨b, o, rfl, h2⟩
    rintro e w' ⟨v', rfl, hown, hb⟩
    refine ⟨v', rfl, ?_, hb⟩
    by_cases hne : ps = []
    · subst hne
      obtain ⟨_, h | ⟨g, c, cur, hv, _⟩⟩ := hown
      · exact .inl ⟨rfl, _, _, h.1⟩
      · exact .inl ⟨rfl, _, _, hv⟩
    · obtain ⟨g, c, cs, h1, h2, h3, _, h5, h6⟩ := cloneP_open hown hne
      exact .inr ⟨hne, g, c, cs, h1, h2, h3, h5, h6⟩
theorem CopyP.sl {w : World} {B : Nat} {v : Value} {ps : List (Int × Int)} (h : CopyP w B v ps) : ∃ a c, v = .slice a ps.length c := by
  rcases h with ⟨rfl, a, c, rfl⟩ | ⟨_, g, c, cs, rfl, _⟩
  · exact ⟨a, c, rfl⟩
  · exact ⟨_, c, rfl⟩
theorem CopyP.keep {w w' : World} {B : Nat} {v : Value} {ps : List (Int × Int)} (h : CopyP w B v ps) (hb : Below w.heap.size w w') : CopyP w' B v ps := by
  rcases h with h | ⟨h0, g, c, cs, h1, h2, h3, h4, h5⟩
  · exact .inl h
  · exact .inr ⟨h0, g, c, cs, h1, h2, h3.keep hb, h4, h5⟩
theorem CopyP.slP {w : World} {B : Nat} {v : Value} {ps : List (Int × Int)} (h : CopyP w B v ps) (hl : ps.length ≤ maxLen) : SlP w v ps := by
  rcases h with ⟨rfl, a, c, rfl⟩ | ⟨_, g, c, cs, rfl, _, hx, _, hH⟩
  · exact ⟨a, c, rfl, by simp [maxLen], .inl rfl⟩
  · exact hH.slP hx hl c
theorem CopyP.put {w : World} {B b i : Nat} {v x : Value} {ps : List (Int × Int)} (h : CopyP w B v ps) (hb : b < B) : CopyP (w.setCell ⟨b, i, none⟩ x) B v ps := by
  rcases h with h | ⟨h0, g, c, cs, h1, h2, h3, h4, h5⟩
  · exact .inl h
  · exact .inr ⟨h0, g, c, cs, h1, h2, h3.other _ _ (by simp; omega), h4, h5⟩
theorem CopyP.mono {w : World} {A B : Nat} {v : Value} {ps : List (Int × Int)} (h : CopyP w B v ps) (hA : A ≤ B) : CopyP w A v ps := by
  rcases h with h | ⟨h0, g, c, cs, h1, h2, h3, h4, h5⟩
  · exact .inl h
  · exact .inr ⟨h0, g, c, cs, h1, by omega, h3, h4, h5⟩


set_option maxRecDepth 100000 in
set_option maxHeartbeats 4000000 in
theorem key_cloned (kind : Int) (X Y Wd H S : Nat) (pv : Value) (ps : List (Int × Int)) (out : Bool) (W : World) (hN : ps.length ≤ 1000) (hs : SlP W pv ps) :
    Calls Try.prog 30 #[.agg #[.int .i64 kind, .float .f32 X, .float .f32 Y, .float .f32 Wd, .float .f32 H, .float .f32 S, pv, .bool out]] W fun e w' => ∃ v', e = .returned (.agg #[.int .i64 kind, .float .f32 X, .float .f32 Y, .float .f32 Wd, .float .f32 H, .float .f32 S, v', .bool out]) ∧ CopyP w' W.heap.size v' ps ∧ Below W.heap.size W w' := by
  have HC := Lib.hid (fun w (h : SlP w pv ps) => clone_points pv ps w hN h)
  have HS := Lib.hid hs
  clear hs
  go_enter Try.func30, Try.ntmps30
  go_upto_region 1 with fail
  refine name_world ?_
  intro w0 hw0
  have x1 : Bx w0 W.heap.size 25 #[.int .i64 kind, .float .f32 X, .float .f32 Y, .float .f32 Wd, .float .f32 H, .float .f32 S, pv, .bool out] := by rw [hw0]; exact (Bx.new _ _ _).alloc _
  have x2 : Bx w0 (W.heap.size + 1) 25 #[.int .i64 0, .float .f32 0, .float .f32 0, .float .f32 0, .float .f32 0, .float .f32 0, .slice none 0 0, .bool false] := by rw [hw0]; exact Bx.at _ (by simp)
  have B : Below W.heap.size W w0 := by rw [hw0]; exact bnew (bnew (Below.refl _ W))
  clear hw0
  obtain ⟨q1, f1, l1⟩ := x1.all
  obtain ⟨q2, f2, l2⟩ := x2.all
  go_wp2_with fail
  refine (HC.out _ (HS.out.keep B)).mono ?_
  rintro e w1 ⟨v', rfl, hcp, hb⟩
  replace x1 := x1.keep hb
  replace x2 := x2.keep hb
  replace B := bcall B hb
  replace hcp := hcp.mono (show W.heap.size + 2 ≤ w0.heap.size by omega)
  obtain ⟨pa, pc, rfl⟩ := hcp.sl
  have HCP := Lib.hid hcp
  clear hb q1 f1 l1 q2 f2 l2 hcp
  obtain ⟨q1, f1, l1⟩ := x1.all
  obtain ⟨q2, f2, l2⟩ := x2.all
  go_wp2_with fail
  refine bodyPost_ret (v := .agg #[.int .i64 kind, .float .f32 X, .float .f32 Y, .float .f32 Wd, .float .f32 H, .float .f32 S, .slice pa ps.length pc, .bool out]) (by simp [results, Try.results30, go_sem, q2]) rfl ⟨_, rfl, ?_, ?_⟩
  · have h := HCP.out
    have c1 : W.heap.size < W.heap.size + 2 := by omega
    have c2 : W.heap.size + 1 < W.heap.size + 2 := by omega
    exact (((((((((h.put c1).put c2).put c2).put c2).put c2).put c2).put c2).put c2).put c2).mono (by omega)
  · exact bput (by omega) (bput (by omega) (bput (by omega) (bput (by omega) (bput (by omega) (bput (by omega) (bput (by omega) (bput (by omega) (bput (by omega) B))))))))
end Go.Proofs.Ytfkiljhjiogdlaa
