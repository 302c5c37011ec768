/- conform.table: tableOf and same. (printed by gen_lki.py) -/
import Derived.Test.YticekgnmiaidjaaGreatDoorLkM
namespace Go.Proofs.YticekgnmiaidjaaGreatDoor
open Go.RowKit Go.Lib

theorem getG_put (A : List (ByteArray × Value)) (k : ByteArray) (v : Value) (s : ByteArray) : getG (putG A k v) s = if s = k then some v else getG A s := by
  unfold putG getG
  by_cases h : s = k
  · subst h
    rw [List.find?_cons_of_pos (by simp), if_pos rfl]
    rfl
  · rw [if_neg h, List.find?_cons_of_neg (by simpa using Ne.symm h)]
    congr 1
    unfold delG
    rw [List.find?_filter]
    congr 1
    funext p
    by_cases h2 : p.1 = s
    · rw [h2]; simp [h]
    · simp [h2]
theorem getG_mem {A : List (ByteArray × Value)} {s : ByteArray} : (getG A s).isSome = true ↔ s ∈ A.map (·.1) := by
  unfold getG
  rw [Option.isSome_map, List.find?_isSome, List.mem_map]
  constructor
  · rintro ⟨r, h1, h2⟩; exact ⟨r, h1, by simpa using h2⟩
  · rintro ⟨r, h1, h2⟩; exact ⟨r, h1, by simpa using h2⟩
theorem delG_fresh {A : List (ByteArray × Value)} {k : ByteArray} (h : k ∉ A.map (·.1)) : delG A k = A := by
  unfold delG
  rw [List.filter_eq_self]
  intro p hp
  have : p.1 ≠ k := fun e => h (List.mem_map.2 ⟨p, hp, e⟩)
  simpa using this
/-- What a map has at a text, and what it stands for. -/
def Rel2 (W0 : World) : Option Value → Option (List Gd) → Prop
  | none, none => True
  | some v, some gs => SlG W0 v gs
  | _, _ => False
/-- The table in block b is f; its shots are N, in order; its grades lie in the memory of W0. -/
structure Tab (W0 w : World) (b : Nat) (f : ByteArray → Option (List Gd)) (N : List ByteArray) : Prop where
  srt : N.Pairwise ltS
  map : ∃ A, MapG w b A ∧ (A.map (·.1)).Perm N ∧ ∀ s, Rel2 W0 (getG A s) (f s)
theorem Tab.keep {W0 w w' : World} {b : Nat} {f : ByteArray → Option (List Gd)} {N : List ByteArray} (h : Tab W0 w b f N) (hb : Below w.heap.size w w') : Tab W0 w' b f N := by
  obtain ⟨h1, A, h2, h3⟩ := h
  exact ⟨h1, A, h2.keep hb, h3⟩
theorem Tab.lt {W0 w : World} {b : Nat} {f : ByteArray → Option (List Gd)} {N : List ByteArray} (h : Tab W0 w b f N) : b < w.heap.size := by
  obtain ⟨h1, A, h2, h3⟩ := h
  exact h2.lt
theorem Tab.mem {W0 w : World} {b : Nat} {f : ByteArray → Option (List Gd)} {N : List ByteArray} (h : Tab W0 w b f N) (s : ByteArray) : s ∈ N ↔ (f s).isSome = true := by
  obtain ⟨h1, A, h2, h3, h4⟩ := h
  rw [← h3.mem_iff, ← getG_mem]
  have := h4 s
  revert this
  cases getG A s <;> cases f s <;> simp [Rel2]
theorem Tab.look {W0 w : World} {b : Nat} {f : ByteArray → Option (List Gd)} {N : List ByteArray} (h : Tab W0 w b f N) (s : ByteArray) (hs : s.size ≤ maxLen) :
    ∃ a n c, (∀ k, (Instr.lookup 93 (.map (some b)) (.string s) k).run Tryz.prog w = .ok (if k = true then .tuple #[.slice a n c, .bool (f s).isSome] else .slice a n c) w) ∧ (∀ gs, f s = some gs → SlG W0 (.slice a n c) gs) ∧ (f s = none → Value.slice a n c = .slice none 0 0) := by
  obtain ⟨h1, A, h2, h3, h4⟩ := h
  have e1 := h2.look_ok s hs
  have e2 := h2.look s hs
  have h5 := h4 s
  cases hg : getG A s with
  | none =>
    rw [hg] at e1 e2 h5
    cases hf : f s with
    | none =>
      refine ⟨none, 0, 0, fun k => ?_, fun gs h => (by cases h), fun _ => rfl⟩
      cases k
      · exact e2
      · exact e1
    | some gs => rw [hf] at h5; exact h5.elim
  | some v =>
    rw [hg] at e1 e2 h5
    cases hf : f s with
    | none => rw [hf] at h5; exact h5.elim
    | some gs =>
      rw [hf] at h5
      have h6 : SlG W0 v gs := h5
      obtain ⟨a, c, hv, _⟩ := id h6
      rw [hv] at e1 e2 h6
      refine ⟨a, gs.length, c, fun k => ?_, fun gs2 h => (by rw [← Option.some.inj h]; exact h6), fun h => (by cases h)⟩
      cases k
      · exact e2
      · exact e1
theorem getR_take {rows : List Rw} {k : Nat} {r : Rw} (hr : rows[k]? = some r) (hn : (rows.map (·.1)).Nodup) (s : ByteArray) : getR (rows.take (k + 1)) s = if s = r.1 then some r.2 else getR (rows.take k) s := by
  unfold getR
  rw [List.take_add_one, hr, List.find?_append]
  by_cases h : s = r.1
  · subst h
    have h0 : (rows.take k).find? (fun x => decide (x.1 = r.1)) = none := by
      rw [List.find?_eq_none]
      intro x hx he
      have he : x.1 = r.1 := by simpa using he
      obtain ⟨j, hj, e⟩ := List.mem_iff_getElem.1 hx
      rw [List.length_take] at hj
      have hk := (List.getElem?_eq_some_iff.1 hr).1
      have h1 := List.pairwise_iff_getElem.1 (show (rows.map (·.1)).Pairwise (· ≠ ·) from hn) j k (by simp; omega) (by simpa using hk) (by omega)
      rw [List.getElem_map, List.getElem_map] at h1
      have e2 : rows[j]'(by omega) = x := by rw [← e]; simp
      have e3 : rows[k] = r := (List.getElem?_eq_some_iff.1 hr).2
      rw [e2, e3] at h1
      exact h1 he
    rw [h0]
    simp
  · rw [if_neg h]
    have : [r].find? (fun x => decide (x.1 = s)) = none := by simp [Ne.symm h]
    simp [this]
set_option maxRecDepth 100000 in
set_option maxHeartbeats 4000000 in
theorem conform_tableOf (v : Value) (rows : List Rw) (W : World) (h : SlL W v rows) (hs : (rows.map (·.1)).Pairwise ltS) (hl : rows.length ≤ 1000) (hz : ∀ r ∈ rows, r.1.size ≤ maxLen) :
    Calls Tryz.prog 41 #[.agg #[v]] W fun e w' => ∃ b, e = .returned (.map (some b)) ∧ W.heap.size ≤ b ∧ Tab W w' b (getR rows) (rows.map (·.1)) ∧ Below W.heap.size W w' := by
  have HS := Lib.hid (And.intro h (And.intro hs hz))
  have HND := Lib.hid (sorted_nodup hs)
  obtain ⟨a, c, rfl, _⟩ := h
  obtain ⟨n, hn⟩ : ∃ n, rows.length = n := ⟨_, rfl⟩
  have HN := Lib.hid hn
  rw [hn] at HS hl ⊢
  clear hn hs hz
  have hmk := run_makeMap_g
  go_enter Tryz.func41, Tryz.ntmps41
  go_upto_region 2 with fail
  clear hmk
  refine name_world ?_
  intro W1 hW1
  have X1 : Hid (Bx W1 W.heap.size 57 #[.slice a n c]) := Lib.hid (by rw [hW1]; exact (Bx.new _ _ _).keep (bnew (Below.refl _ _)))
  have hb0 : (W.alloc (.cells #[.slice a n c] 57)).heap.size = W.heap.size + 1 := Array.size_push _
  have HM : Hid (MapG W1 (W.heap.size + 1) []) := Lib.hid (by rw [hW1, ← hb0]; exact MapG.new _)
  have HW : Hid (Below W.heap.size W W1) := Lib.hid (by rw [hW1]; exact bnew (bnew (ob := .cells #[.slice a n c] 57) (Below.refl _ W)))
  try rw [hb0]
  obtain ⟨p1, hp1⟩ : ∃ p, W.heap.size = p := ⟨_, rfl⟩
  obtain ⟨b, hb⟩ : ∃ b, p1 + 1 = b := ⟨_, rfl⟩
  have HP1 := Lib.hid (And.intro hp1 hb)
  rw [hp1, hb] at HM
  rw [hp1] at X1
  try rw [hp1]
  try rw [hb]
  clear hW1 hp1 hb hb0
  have q0 := X1.out.all.1 0
  simp only [List.getElem?_toArray, List.getElem?_cons_zero] at q0
  go_wp2_with fail
  clear q0
  go_loopw [10] (fun i wr => ∃ (k : Nat) (A : List (ByteArray × Value)), k ≤ n ∧ i = .int .i64 (k : Int) ∧ Hid (Below p1 W wr ∧ MapG wr b A ∧ (A.map (·.1)).Perm ((rows.take k).map (·.1)) ∧ ∀ s, Rel2 W (getG A s) (getR (rows.take k) s))) (fun i _ => n - (RowKit.intOf i).toNat)
  case atStart => exact ⟨0, [], Nat.zero_le _, rfl, Lib.hid ⟨by have := HW.out; rw [HP1.out.1] at this; exact this, HM.out, .refl _, fun s => trivial⟩⟩
  case round =>
    obtain ⟨k, A, hk, rfl, HI⟩ := hrel
    by_cases hlt : k < n
    · obtain ⟨r, hr⟩ : ∃ r, rows[k]? = some r := ⟨_, List.getElem?_eq_getElem (by have := HN.out; omega)⟩
      obtain ⟨b1, o1, rfl, hb1, hR⟩ : ∃ b o, a = some ⟨b, o, none⟩ ∧ b < W.heap.size ∧ RwAt W b o rows := by
        obtain ⟨a', c', he, _, _, h0 | h0⟩ := HS.out.1
        · rw [h0] at hr; simp at hr
        · cases he; exact h0
      have hBW : Below W.heap.size W wr := by rw [HP1.out.1]; exact HI.out.1
      obtain ⟨h1, gv, h2, h3⟩ := hR k r hr
      have c0 := cell_belowF hBW h1
      have c1 := cell_belowF hBW h2
      have h3' := h3
      obtain ⟨ag, cg, hgv, _⟩ := h3'
      obtain ⟨ng, hng⟩ : ∃ n, r.2.length = n := ⟨_, rfl⟩
      rw [hng] at hgv
      subst hgv
      obtain ⟨nm, hnm⟩ : ∃ s, r.1 = s := ⟨_, rfl⟩
      rw [hnm] at c0
      have hzs := HS.out.2.2 r (List.mem_of_getElem? hr)
      rw [hnm] at hzs
      have HR := Lib.hid (And.intro hr (And.intro h3 (And.intro hnm hzs)))
      have hd1 : decide ((k : Int) < (n : Int)) = true := decide_eq_true (by omega)
      clear h1 h2 h3 hr hnm hng hR hBW hzs
      go_upto_region 5 with fail
      refine name_world ?_
      intro W3 hW3
      have X4 : Hid (Bx W3 wr.heap.size 89 #[.string nm, .slice ag ng cg]) := Lib.hid (by rw [hW3]; exact Bx.new _ _ _)
      have B3 : Hid (Below wr.heap.size wr W3) := Lib.hid (by rw [hW3]; exact bnew (Below.refl _ _))
      obtain ⟨p4, hp4⟩ : ∃ p, wr.heap.size = p := ⟨_, rfl⟩
      rw [hp4] at X4 ⊢
      clear hW3 hp4 c0 c1 hd1
      have r0 := X4.out.all.1 0
      have r1 := X4.out.all.1 1
      simp only [List.getElem?_toArray, List.getElem?_cons_zero, List.getElem?_cons_succ] at r0 r1
      have HMK := Lib.hid (HI.out.2.1.keep B3.out)
      have hAl : Hid (A.length = k ∧ nm ∉ A.map (·.1)) := Lib.hid (by
        have h1 := HI.out.2.2.1.length_eq
        have hk2 : k < rows.length := by have := HN.out; omega
        rw [List.length_map, List.length_map, List.length_take] at h1
        refine ⟨by omega, fun hm => ?_⟩
        have h2 := HI.out.2.2.1.mem_iff.1 hm
        have h3 : (getR (rows.take k) nm).isSome = true := getR_mem.2 h2
        have h4 : ((rows.take (k + 1)).map (·.1)).Nodup := (HND.out).sublist ((List.take_sublist _ _).map _)
        rw [List.take_add_one, HR.out.1, List.map_append, List.nodup_append] at h4
        exact h4.2.2 nm h2 nm (by simp [HR.out.2.2.1]) rfl)
      go_wp2_with (at_mapUpdate; refine mapG_update rfl (.tmp 14) (.tmp 16) (.tmp 18) rfl HMK.out rfl nm (.slice ag ng cg) rfl rfl HR.out.2.2.2 (by have := hAl.out.1; unfold maxLen; omega) ?_)
      intro w5 hm5 ho5
      have HJ : Hid (Below p1 W w5 ∧ MapG w5 b (putG A nm (.slice ag ng cg)) ∧ ((putG A nm (.slice ag ng cg)).map (·.1)).Perm ((rows.take (k + 1)).map (·.1)) ∧ ∀ s, Rel2 W (getG (putG A nm (.slice ag ng cg)) s) (getR (rows.take (k + 1)) s)) := Lib.hid (by
        refine ⟨?_, hm5, ?_, fun s => ?_⟩
        · have h1 := HI.out.1
          have h2 := HP1.out
          refine ⟨ho5.os.trans (B3.out.os.trans h1.os), ho5.tape.trans (B3.out.tape.trans h1.tape), ho5.output.trans (B3.out.output.trans h1.output), by rw [ho5.size]; exact Nat.le_trans h1.size B3.out.size, fun q hq => ?_⟩
          have h3 := h1.size
          exact (ho5.block q (by omega)).trans ((B3.out.block q (by omega)).trans (h1.block q hq))
        · unfold putG
          rw [List.map_cons, delG_fresh hAl.out.2, List.take_add_one, HR.out.1, List.map_append]
          have h1 := HI.out.2.2.1
          have h2 : ((some r).toList.map fun x : Rw => x.1) = [nm] := by simp [HR.out.2.2.1]
          rw [h2]
          exact (List.Perm.cons nm h1).trans (List.perm_append_singleton nm _).symm
        · rw [getG_put, getR_take HR.out.1 HND.out, HR.out.2.2.1]
          by_cases hs : s = nm
          · rw [if_pos hs, if_pos hs]; exact HR.out.2.1
          · rw [if_neg hs, if_neg hs]; exact HI.out.2.2.2 s)
      clear hm5 ho5 r0 r1
      go_wp2_with fail
      go_roundw
      case rel => exact ⟨k + 1, _, by omega, by go_num, HJ⟩
      case measure => simp [RowKit.intOf]; omega
    · obtain rfl : n = k := by omega
      go_wp2_with fail
      go_ret
      have e : rows.take n = rows := by rw [← HN.out, List.take_length]
      have h := HI.out
      rw [e] at h
      exact ⟨b, rfl, by have := HP1.out; omega, ⟨HS.out.2.1, A, h.2.1, h.2.2.1, h.2.2.2⟩, by rw [HP1.out.1]; exact h.1⟩
set_option maxRecDepth 100000 in
set_option maxHeartbeats 4000000 in
theorem conform_same (W0 W : World) (b1 b2 : Nat) (f1 f2 : ByteArray → Option (List Gd)) (N1 N2 : List ByteArray) (s : ByteArray) (E : EnvF W0) (hB : Below W0.heap.size W0 W) (h1 : Tab W0 W b1 f1 N1) (h2 : Tab W0 W b2 f2 N2)
    (r1 : ∀ s gs, f1 s = some gs → RightL gs) (r2 : ∀ s gs, f2 s = some gs → RightL gs) (hs : s.size ≤ maxLen) :
    Calls Tryz.prog 43 #[.map (some b1), .map (some b2), .string s] W fun e w' => e = .returned (.bool (simO (f1 s) (f2 s))) ∧ Below W.heap.size W w' := by
  obtain ⟨a1, n1, c1, l1, g1, _⟩ := h1.look s hs
  obtain ⟨a2, n2, c2, l2, g2, _⟩ := h2.look s hs
  have e1 := l1 true
  have e2 := l2 true
  rw [if_pos rfl] at e1 e2
  have HG := Lib.hid (And.intro E (And.intro hB (And.intro (r1 s) (And.intro (r2 s) (And.intro g1 g2)))))
  clear E hB h1 h2 r1 r2 hs l1 l2 g1 g2
  obtain ⟨x, hx⟩ : ∃ x, f1 s = x := ⟨_, rfl⟩
  obtain ⟨y, hy⟩ : ∃ y, f2 s = y := ⟨_, rfl⟩
  rw [hx] at e1 HG ⊢
  rw [hy] at e2 HG ⊢
  clear hx hy
  cases x with
  | none =>
    cases y with
    | none =>
      go_enter Tryz.func43, Tryz.ntmps43
      go_wp2_with fail
      go_ret
      exact ⟨rfl, Below.refl _ _⟩
    | some B =>
      go_enter Tryz.func43, Tryz.ntmps43
      go_wp2_with fail
      go_ret
      exact ⟨rfl, Below.refl _ _⟩
  | some A =>
    cases y with
    | none =>
      go_enter Tryz.func43, Tryz.ntmps43
      go_wp2_with fail
      go_ret
      exact ⟨rfl, Below.refl _ _⟩
    | some B =>
      go_enter Tryz.func43, Tryz.ntmps43
      go_wp2_with fail
      refine (conform_alike _ _ A B _ (HG.out.1.below HG.out.2.1) ((HG.out.2.2.2.2.1 A rfl).keep HG.out.2.1) ((HG.out.2.2.2.2.2 B rfl).keep HG.out.2.1) (HG.out.2.2.1 A rfl) (HG.out.2.2.2.1 B rfl)).mono ?_
      rintro e w2 ⟨rfl, hb2⟩
      have HB2 := Lib.hid hb2
      clear hb2
      obtain ⟨q, hq⟩ : ∃ q, simG A B = q := ⟨_, rfl⟩
      have HQ : Hid (simO (some A) (some B) = q) := Lib.hid hq
      rw [hq]
      clear hq
      go_wp2_with fail
      go_ret
      exact ⟨by rw [HQ.out]; rfl, HB2.out⟩
end Go.Proofs.YticekgnmiaidjaaGreatDoor
