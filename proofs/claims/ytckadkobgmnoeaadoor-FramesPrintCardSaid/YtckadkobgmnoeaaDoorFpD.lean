/- frame.integer and dyeref1.whole: an integer without superfluous zeros. (printed by gen_fpd.py) -/
import Derived.Test.YtckadkobgmnoeaaDoorFpC
import Derived.Lib.AppendIntMem
namespace Go.Proofs.YtckadkobgmnoeaaDoor
open Go.RowKit

/-- What the calls read of Go's library's variables. -/
structure Env (w : World) : Prop where
  max : ∃ m, w.cell? ⟨1, 0, none⟩ = some (.int .i64 m)
  syn : ∃ ev, w.cell? ⟨3, 0, none⟩ = some ev ∧ (ev = .nilIface ∨ ∃ te pe, ev = .iface te pe)
  rng : ∃ ev, w.cell? ⟨4, 0, none⟩ = some ev ∧ (ev = .nilIface ∨ ∃ te pe, ev = .iface te pe)
  tab : Lib.TabIs Tryd.prog w "internal/strconv.uint64pow10" .u64 Lib.pow10Tab
theorem cell_below {W w : World} {a : Addr} {v : Value} (hb : Below W.heap.size W w) (h : W.cell? a = some v) : w.cell? a = some v :=
  (hb.cell (World.block_lt_of_cell? W a h)).trans h
theorem var_below {W w : World} {P : Program} {n : String} {cs : Array Value} (hb : Below W.heap.size W w) (h : W.var? P n = some cs) : w.var? P n = some cs := by
  unfold World.var? at *
  rw [Option.bind_eq_some_iff] at *
  obtain ⟨g, hg, h⟩ := h
  refine ⟨g, hg, ?_⟩
  cases ho : W.heap[g]? with
  | none => rw [ho] at h; cases h
  | some o =>
    rw [hb.block g (Array.getElem?_eq_some_iff.1 ho).1]
    exact h
theorem Env.below {W w : World} (E : Env W) (hb : Below W.heap.size W w) : Env w := by
  obtain ⟨⟨m, h1⟩, ⟨e2, h2, k2⟩, ⟨e3, h3, k3⟩, h4⟩ := E
  exact ⟨⟨m, cell_below hb h1⟩, ⟨e2, cell_below hb h2, k2⟩, ⟨e3, cell_below hb h3, k3⟩, var_below hb h4⟩

/-- An integer read: the number, and whether the text is just its own. -/
def intR (l : List UInt8) : Int × Bool :=
  match Lib.atoiAll l with
  | .ok v => (v, decide (Lib.itoa v = l))
  | .range => (Lib.atoiSat l, false)
  | _ => (0, false)
theorem itoa_is {v : Int} {s : ByteArray} : Lib.itoa v = s.data.toList ↔ (⟨(Lib.itoa v).toArray⟩ : ByteArray) = s := by
  constructor
  · intro h; rw [h, bytes_list]
  · intro h; rw [← h]
theorem str_beq (a b : ByteArray) : (a.toList == b.toList) = decide (a = b) := by
  rw [Lib.toList_data, Lib.toList_data, Bool.eq_iff_iff, beq_iff_eq, decide_eq_true_iff]
  constructor
  · intro h; rw [← bytes_list a, ← bytes_list b, h]
  · rintro rfl; rfl
theorem atoi_ok_range {l : List UInt8} {v : Int} (h : Lib.atoiAll l = .ok v) : -9223372036854775808 ≤ v ∧ v ≤ 9223372036854775807 := by
  unfold Lib.atoiAll at h
  split at h
  · cases h
  · simp only at h
    split at h
    · cases h
    · cases h
    · split at h
      · cases h
      · split at h
        · cases h
        · cases h
          split <;> omega

set_option maxRecDepth 100000 in
set_option maxHeartbeats 4000000 in
theorem frame_integer (s : ByteArray) (W : World) (E : Env W) (hs : s.size ≤ 281474976710656) : Calls Tryd.prog 35 #[.string s] W fun e w' => e = .returned (.tuple #[.int .i64 (intR s.data.toList).1, .bool (intR s.data.toList).2]) ∧ Below W.heap.size W w' := by
  cases ha : Lib.atoiAll s.data.toList with
  | ok v =>
    obtain ⟨b, hb⟩ : ∃ b, decide ((⟨(Lib.itoa v).toArray⟩ : ByteArray) = s) = b := ⟨_, rfl⟩
    have hr : intR s.data.toList = (v, b) := by unfold intR; rw [ha]; show (v, decide _) = _; rw [← hb]; congr 1; rw [decide_eq_decide]; exact itoa_is
    have hv := atoi_ok_range ha
    rw [hr]
    go_enter Tryd.func35, Tryd.ntmps35
    go_wp2_with fail
    refine (Tryd.strconv_Atoi_ok s (by omega) v ha _).mono ?_
    rintro e w1 ⟨rfl, hw⟩
    have B : Below W.heap.size W w1 := by
      rcases hw with rfl | ⟨t, rfl⟩
      · exact Below.refl _ _
      · exact Lib.bytesWorld_below _ _ _
    clear hw hr ha
    have htab := (E.below B).tab
    clear E
    go_wp2_with fail
    refine (Tryd.strconv_Itoa v hv.1 hv.2 _ htab).mono ?_
    rintro e w2 ⟨rfl, k, os, hw⟩
    have B2 : Below W.heap.size W w2 := by rw [hw]; exact B.trans ((Lib.below_grow _ _ (Nat.le_refl _) _ _).mono B.size)
    clear hw htab B
    obtain ⟨I, hI⟩ : ∃ I : ByteArray, (⟨(Lib.itoa v).toArray⟩ : ByteArray) = I := ⟨_, rfl⟩
    rw [hI] at hb ⊢
    clear hI
    go_wp2_with fail
    go_ret2
    exact ⟨by simp [str_beq, hb], B2⟩
  | range =>
    have hr : intR s.data.toList = (Lib.atoiSat s.data.toList, false) := by unfold intR; rw [ha]
    obtain ⟨ev, hv, hev⟩ := E.rng
    rw [hr]
    go_enter Tryd.func35, Tryd.ntmps35
    go_wp2_with fail
    refine (Tryd.strconv_Atoi_range s hs ha ev _ hv hev).mono ?_
    rintro e w1 ⟨N, rfl, _, _, B⟩
    obtain ⟨z, hz⟩ : ∃ z, Lib.atoiSat s.data.toList = z := ⟨_, rfl⟩
    rw [hz]
    go_wp2_with fail
    go_ret2
    exact ⟨by rw [hz]; rfl, B⟩
  | _ =>
    have hr : intR s.data.toList = (0, false) := by unfold intR; rw [ha]
    obtain ⟨ev, hv, hev⟩ := E.syn
    rw [hr]
    go_enter Tryd.func35, Tryd.ntmps35
    go_wp2_with fail
    refine (Tryd.strconv_Atoi_syntax s hs ha ev _ hv hev).mono ?_
    rintro e w1 ⟨N, rfl, _, _, B⟩
    go_wp2_with fail
    go_ret2
    exact ⟨rfl, B⟩

end Go.Proofs.YtckadkobgmnoeaaDoor
