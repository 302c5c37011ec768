/- Lines of approvals, sorted; the entries that a range over the map gives. Plain. -/
import Derived.Test.YtilninaminaadaaGreatDoorStS
import Derived.Shelf.Slices.In.SortNone
import Derived.Lib.Join
namespace Go.Proofs.YtilninaminaadaaGreatDoor

section
open Go.RowKit Go.Maps

theorem below_of_grown {w w' : World} (h : w.grownBy w' none) : Below w.heap.size w w' := (Below.refl _ _).grown h (Nat.le_refl _) (fun g hg => by cases hg)
/-- A step of a range over a map from texts to texts. -/
theorem next_ss (w : World) {ops : Array Oper} {rest : List Oper} {o : Oper} {a : Act} {Q : Exit → Act → World → Prop} (hg : o.guard = none) (it : Operand) (hop : o.op = Op.next it false)
    (b r n : Nat) (D : DataW Unit) (left : Lit → Bool) (cnt : Nat) (hit : a.eval it = .pointer (some ⟨r, 0, none⟩)) (h : w.ranges Tryz.prog 9 (plainElem Tryz.prog 9) b r n D left cnt)
    (hDone : (∀ kl, left kl = false) → wpList Tryz.prog ops Q rest (a.put o.dst (.tuple #[.bool false])) w)
    (hMore : ∀ (x c : ByteArray) (w' : World) (cnt' : Nat), x.size ≤ maxLen → left (.string x.data.toList) = true → (∀ zd, D.atKey (.string x.data.toList) zd = .lit (.string c.data.toList)) → w'.ranges Tryz.prog 9 (plainElem Tryz.prog 9) b r n D (fun z => left z && !z.sameKey (.string x.data.toList)) cnt' → cnt' < cnt →
      w.grownBy w' (some r) → (Instr.entry (.pointer (some ⟨r, 0, none⟩))).run Tryz.prog w' = .ok (.tuple #[.string x, .string c]) w' → wpList Tryz.prog ops Q rest (a.put o.dst (.tuple #[.bool true, .string x, .string c])) w') :
    wpList Tryz.prog ops Q (o :: rest) a w :=
  wpList_next_ranges w hg it hop 9 strK (plainElem Tryz.prog 9) Value.string Value.string
    (fun key kl hkey => by obtain ⟨x, rfl, _⟩ := Maps.keyOf_str Tryz.underlying9 hkey; exact ⟨_, rfl⟩)
    (fun v y hv => by obtain ⟨s, rfl, _⟩ := plainElem_string_inv Tryz.underlying9 hv; exact ⟨s, rfl⟩)
    b r n D left cnt hit h (fun _ hl => hDone hl) (fun x c kl y w' cnt' hkey hlk hv hat hrg hlt hgr _ hen => by
      obtain ⟨x', ex, rfl, hx⟩ := Maps.keyOf_str Tryz.underlying9 hkey
      have e : x' = x.data.toList := by
        have : (⟨x'.toArray⟩ : ByteArray) = x := by simpa [encStr] using ex.symm
        rw [← this]
      subst e
      obtain ⟨s, es, hs2, _⟩ := plainElem_string_inv Tryz.underlying9 hv
      cases es
      have hy : y.1 = .lit (.string c.data.toList) := congrArg Prod.fst hs2
      exact hMore x c w' cnt' (by rw [Lib.size_eq]; exact hx) hlk (fun zd => (hat zd).trans hy) hrg hlt hgr hen)
theorem strKeys_perm {es : List (Lit × DataW Unit)} {A : List (ByteArray × ByteArray)} (hp : es.Perm (A.map lpair)) : (strKeys (.map es)).Perm (A.map fun p => p.1.data.toList) := by
  show (es.map fun p => strOf p.1).Perm _
  have h := hp.map fun p => strOf p.1
  rw [List.map_map] at h
  exact h
theorem unL {S : List ByteArray} {L : List (List UInt8)} (h : (S.map fun x => x.data.toList).Perm L) {T : List ByteArray} (hT : L = T.map fun x => x.data.toList) : S.Perm T := by
  subst hT
  have h2 := h.map fun l => (⟨l.toArray⟩ : ByteArray)
  have e : ∀ U : List ByteArray, (U.map fun x => x.data.toList).map (fun l => (⟨l.toArray⟩ : ByteArray)) = U := fun U => by
    rw [List.map_map]
    conv => rhs; rw [← List.map_id U]
    apply List.map_congr_left
    intro x _
    simp
  rw [e, e] at h2
  exact h2
theorem own_monoS {w : World} {B B' : Nat} {v : Value} {S : List ByteArray} (h : OwnS B w v S) (hb : B' ≤ B) : OwnS B' w v S := by
  refine ⟨h.1, ?_⟩
  rcases h.2 with h0 | ⟨g, cap, cur, e1, e2, e3⟩
  · exact .inl h0
  · exact .inr ⟨g, cap, cur, e1, by omega, e3⟩
theorem oth_below {g : Nat} {w0 w w' : World} (hb : Below w0.heap.size w0 w) (h : Oth g w w') (hg : w0.heap.size + 1 ≤ g) : Below w0.heap.size w0 w' := by
  have h2 := hb.size
  have e : w'.heap.size ≥ w.heap.size := h.size
  refine hb.trans ?_
  exact ⟨h.os, h.tape, h.output, e, fun k hk => h.block k (by omega) (by omega)⟩
/-- The shots that are approved, in order. -/
def shotsL (A : List (ByteArray × ByteArray)) : List ByteArray := srtS (A.map (·.1))
theorem shotsL_len (A : List (ByteArray × ByteArray)) : (shotsL A).length = A.length := by unfold shotsL; rw [srtS_len, List.length_map]
theorem shotsL_mem (A : List (ByteArray × ByteArray)) (s : ByteArray) : s ∈ shotsL A ↔ s ∈ A.map (·.1) := (srtS_perm _).mem_iff
theorem own_ranges {w : World} {b r n cnt B : Nat} {D : DataW Unit} {left : Lit → Bool} {w' : World} {v v' : Value} (h : w.ranges Tryz.prog 9 (plainElem Tryz.prog 9) b r n D left cnt) (ha : Apd B w w' v v') (hb : ∀ g, v.ownBlock = some g → g ≠ b ∧ g ≠ r) : w'.ranges Tryz.prog 9 (plainElem Tryz.prog 9) b r n D left cnt :=
  h.kept ha.grown (fun e => (hb b e.symm).1 rfl) (fun e => (hb r e.symm).2 rfl)
set_option maxRecDepth 100000 in
set_option maxHeartbeats 4000000 in
theorem conform_shots (p : Nat) (σ : Rv) (F : Nat → Prop) (vn : Value) (m : Nat) (rv : Nat → Value) (W : World) (h : VO W p σ F vn m rv) (hl : σ.appr.length ≤ 1000000000) :
    Calls Tryz.prog 31 #[.pointer (some ⟨p, 0, none⟩)] W fun e w' => ∃ v, e = .returned v ∧ OwnS W.heap.size w' v (shotsL σ.appr) ∧ Below W.heap.size W w' := by
  have hmap := h.map
  have hmlt := hmap.lt
  have hbx := h.bx
  obtain ⟨A, hA⟩ : ∃ A, A = σ.appr := ⟨_, rfl⟩
  rw [← hA] at hmap hl ⊢
  obtain ⟨hnd, hsz, es, hown, hperm⟩ := hmap
  have Hperm := Lib.hid hperm
  have Hown := Lib.hid hown
  clear h hA hnd hsz hperm
  generalize σ.count = cn at *
  obtain ⟨q, f, l⟩ := hbx.all
  go_enter Tryz.func31, Tryz.ntmps31
  go_wp2_with (at_range; refine wpList_range_own _ rfl _ 44 rfl 9 9 strK Tryz.underlying44 _ m A.length _ rfl hown ?_; intro w0 hrg0 hg0 hs0)
  go_frame
  clear q f l hown
  go_loopw [3] (fun v wr => ∃ (left : Lit → Bool) (cnt : Nat) (ks : List ByteArray), wr.ranges Tryz.prog 9 (plainElem Tryz.prog 9) m W.heap.size A.length (.map es) left cnt ∧ OwnS (W.heap.size + 1) wr v ks ∧ Hid (Collected (.map es) left (ks.map fun x => x.data.toList)) ∧ ks.length + cnt ≤ A.length ∧ Below W.heap.size W wr ∧ W.heap.size + 1 ≤ wr.heap.size) (fun _ wr => wr.rangeLeft m W.heap.size)
  case atStart =>
    refine ⟨_, _, [], hrg0, World.ownsRow_nil _ _ _ _, Lib.hid (Collected.start _), ?_, below_of_grown hg0, by omega⟩
    have := Hperm.out.length_eq
    simp [Maps.size] at this ⊢
    omega
  case round =>
    obtain ⟨left, cnt, ks, hrg, own, HC, hle, B, hsz⟩ := hrel
    clear hrg0 hg0 hs0
    go_wp2_with (at_next; refine next_ss _ rfl _ rfl m W.heap.size A.length _ _ _ rfl hrg ?_ ?_)
    · intro hl0
      have hks := (HC.out.perm Hown.out strK Tryz.underlying9 hl0).trans (strKeys_perm Hperm.out)
      have hp2 := unL hks (T := A.map (·.1)) (by rw [List.map_map]; rfl)
      have he : srtS ks = shotsL A := srtS_eq hp2
      clear hrg hks
      rcases own.form with ⟨rfl, rfl⟩ | ⟨g, cap, rfl, hg, hgl, hcap, _⟩
      · have hA0 : shotsL A = [] := by rw [← he]; exact List.eq_nil_of_length_eq_zero (by rw [srtS_len]; rfl)
        go_wp2_with fail
        refine (Any.slices_Sort_string_none Tryz.lays190 none 0 _).mono ?_
        rintro e w' ⟨rfl, rfl⟩
        go_wp2_with fail
        go_ret
        exact ⟨_, rfl, by rw [hA0]; exact World.ownsRow_nil _ _ _ _, B⟩
      · have hc := sort_reels own (by omega)
        go_wp2_with fail
        refine hc.mono ?_
        rintro e w' ⟨rfl, own', ho⟩
        go_wp2_with fail
        go_ret
        rw [he] at own'
        refine ⟨_, rfl, ?_, ?_⟩
        · exact own_monoS own' (by omega)
        · exact oth_below B ho hg
    · intro x c w1 cnt1 hx hlx hat hrg1 hlt hg1 hen
      have own1 : OwnS (W.heap.size + 1) w1 u3 ks := own_keepg own fun g hg hlt' => hg1.block g hlt' (fun e => by
        have := (OwnS.base own g hg).1
        simp only [Option.some.injEq] at e
        omega)
      have B1 : Below W.heap.size W w1 := B.grown hg1 (by omega) (fun g hg => by simp only [Option.some.injEq] at hg; omega)
      have hs1 := hg1.size
      have HC1 := Lib.hid (HC.out.step hlx hat)
      have Hlm := Lib.hid hrg.left_eq
      clear B own hrg hlx hat HC
      go_wp2_with (at_builtin; refine str_append (B := W.heap.size + 1) (p := x) rfl (.tmp 14) (.tmp 16) rfl rfl w1.heap.size rfl (own1.keep (bnew (Below.refl _ _))) (Bx.new _ _ _) (by omega) (by simp; omega) ?_)
      intro v' w2 own2 ap
      have hrg2 := own_ranges (hrg1.alloc (.cells #[.string x] 9)) ap (fun g hg => by have := (OwnS.base own1 g hg).1; omega)
      have B2 : Below W.heap.size W w2 := ap.below (B1.alloc (by omega) _) (by omega) (by simp; omega) (fun g hg => by have := (OwnS.base own1 g hg).1; omega)
      have hs2 : W.heap.size + 1 ≤ w2.heap.size := by have := ap.size; simp at this; omega
      clear own1 B1 hrg1 ap hen hg1
      go_wp2_with fail
      go_roundw
      case rel => exact ⟨_, cnt1, ks ++ [x], hrg2, own2, Lib.hid (by rw [List.map_append]; exact HC1.out), by rw [List.length_append, List.length_singleton]; omega, B2, hs2⟩
      case measure => rw [hrg2.left_eq, Hlm.out]; exact hlt
end

section
open Go.RowKit

def sAt (S : List ByteArray) (k : Nat) : ByteArray := S.getD k default
def apprOf (A : List (ByteArray × ByteArray)) (s : ByteArray) : ByteArray := (getA A s).getD ⟨#[]⟩
def apprsT (A : List (ByteArray × ByteArray)) (k : Nat) : List UInt8 := (List.range k).flatMap fun i => toL (apprB (sAt (shotsL A) i, apprOf A (sAt (shotsL A) i)))
theorem apprsT_succ (A : List (ByteArray × ByteArray)) (k : Nat) : apprsT A (k + 1) = apprsT A k ++ toL (apprB (sAt (shotsL A) k, apprOf A (sAt (shotsL A) k))) := by
  unfold apprsT; rw [List.range_succ, List.flatMap_append]; simp
/-- What Text writes. -/
def textS (σ : Rv) : List UInt8 := notesT σ.notes σ.notes.length ++ apprsT σ.appr σ.appr.length
theorem appr_at {σ : Rv} (wf : Wf σ) {k : Nat} (hk : k < σ.appr.length) : nameB (sAt (shotsL σ.appr) k) = true ∧ nameB (apprOf σ.appr (sAt (shotsL σ.appr) k)) = true := by
  have hm : sAt (shotsL σ.appr) k ∈ σ.appr.map (·.1) := by
    rw [← shotsL_mem]
    unfold sAt
    rw [List.getD_eq_getElem?_getD, List.getElem?_eq_getElem (by rw [shotsL_len]; exact hk)]
    exact List.getElem_mem _
  generalize sAt (shotsL σ.appr) k = s at *
  obtain ⟨p, hp, rfl⟩ := List.mem_map.1 hm
  refine ⟨(wf.appr p hp).1, ?_⟩
  unfold apprOf getA
  cases hf : σ.appr.find? fun q => decide (q.1 = p.1) with
  | none => exact absurd (List.find?_eq_none.1 hf p hp) (by simp)
  | some q => exact (wf.appr q (List.mem_of_find?_eq_some hf)).2.1
theorem apprB_size {p : ByteArray × ByteArray} (h1 : nameB p.1 = true) (h2 : nameB p.2 = true) : (apprB p).size ≤ 100 := by
  have := (name_sz h1).2
  have := (name_sz h2).2
  unfold apprB
  simp only [ByteArray.size_append, lit_sz9, lit_szn, lit_sz1]
  omega
theorem apprsT_len {σ : Rv} (wf : Wf σ) : ∀ k, k ≤ σ.appr.length → (apprsT σ.appr k).length ≤ 100 * k := by
  intro k
  induction k with
  | zero => intro _; simp [apprsT]
  | succ k ih =>
    intro hk
    have h1 := ih (by omega)
    have h2 := appr_at wf (show k < σ.appr.length by omega)
    have h3 := apprB_size (p := (sAt (shotsL σ.appr) k, apprOf σ.appr (sAt (shotsL σ.appr) k))) h2.1 h2.2
    rw [apprsT_succ, List.length_append, toL_len]
    omega
theorem OwnS.bx {B : Nat} {w : World} {v : Value} {S : List ByteArray} (h : OwnS B w v S) : ∃ a c, v = .slice a S.length c ∧ (0 < S.length → ∃ g cs, a = some ⟨g, 0, none⟩ ∧ B ≤ g ∧ Bx w g 9 cs ∧ ∀ k, k < S.length → cs[k]? = some (.string (sAt S k))) := by
  rcases h.2 with ⟨h0, h1⟩ | ⟨g, cap, cur, e1, e2, e3, e4, e5, e6, e7⟩
  · rw [h1]; exact ⟨none, 0, h0, fun h => absurd h (by omega)⟩
  · refine ⟨_, _, e1, fun _ => ⟨g, cur, rfl, e2, e3, fun k hk => ?_⟩⟩
    have h1 : (cur.toList.take (S.length * 1))[k]? = (S.map Value.string)[k]? := by rw [e7]
    rw [List.getElem?_take, if_pos (by omega)] at h1
    rw [← Array.getElem?_toList, h1]
    simp [sAt, hk]
theorem below_self {w w' : World} {B : Nat} (hB : w.heap.size ≤ B) (h : Below B w w') : Below w.heap.size w w' := h.mono hB
theorem bx_under {w w' : World} {B g : Nat} {T : TypeId} {cs : Array Value} (x : Bx w g T cs) (hb : Below B w w') (h : g < B) : Bx w' g T cs := by
  unfold Bx at *
  rw [hb.block g h]; exact x
end

section
open Go.RowKit Go.Maps

theorem name_gt {s : ByteArray} (h : nameB s = true) : ∀ c ∈ s.data.toList, (32 : UInt8) < c := by
  unfold nameB at h
  simp only [Bool.and_eq_true] at h
  intro c hc
  have h1 := List.all_eq_true.1 h.2 c hc
  unfold okB at h1
  simp only [Bool.or_eq_true, Bool.and_eq_true, decide_eq_true_eq] at h1
  rw [UInt8.lt_iff_toNat_lt]
  have : (32 : UInt8).toNat = 32 := rfl
  omega
theorem line_lt : ∀ (x y : List UInt8), (∀ c ∈ y, (32 : UInt8) < c) → x < y → ∀ u v, x ++ 32 :: u < y ++ 32 :: v
  | [], [], _, h, _, _ => absurd h (by simp)
  | [], b :: y, hy, _, u, v => by
    rw [List.nil_append, List.cons_append, List.cons_lt_cons_iff]
    exact .inl (hy b (by simp))
  | _ :: _, [], _, h, _, _ => absurd h (by simp)
  | a :: x, b :: y, hy, h, u, v => by
    rw [List.cons_lt_cons_iff] at h
    rw [List.cons_append, List.cons_append, List.cons_lt_cons_iff]
    rcases h with h | ⟨h1, h2⟩
    · exact .inl h
    · exact .inr ⟨h1, line_lt x y (fun c hc => hy c (by simp [hc])) h2 u v⟩
theorem pre_le (p x y : List UInt8) (h : x ≤ y) : p ++ x ≤ p ++ y := by
  induction p with
  | nil => exact h
  | cons a p ih =>
    rw [List.cons_append, List.cons_append, List.cons_le_cons_iff]
    exact .inr ⟨rfl, ih⟩
theorem apprB_list (s a : ByteArray) : (apprB (s, a)).data.toList = [97, 112, 112, 114, 111, 118, 101, 100, 32] ++ (s.data.toList ++ 32 :: (a.data.toList ++ [10])) := by
  unfold apprB
  simp [ByteArray.data_append]
theorem appr_le {f : ByteArray → ByteArray} {s t : ByteArray} (ht : nameB t = true) (h : s.data.toList ≤ t.data.toList) : (apprB (s, f s)).data.toList ≤ (apprB (t, f t)).data.toList := by
  by_cases e : s = t
  · subst e; exact List.le_refl _
  · rw [apprB_list, apprB_list]
    refine pre_le _ _ _ (List.le_of_lt (line_lt _ _ (name_gt ht) ?_ _ _))
    rw [← List.not_le]
    intro h2
    exact e (bytes_inj.1 (List.le_antisymm h h2))
/-- The lines of the approvals, sorted, are the lines of the sorted names. -/
theorem lines_srt {σ : Rv} (wf : Wf σ) {ks : List ByteArray} (hk : ks.Perm (σ.appr.map (·.1))) : srtS (ks.map fun s => apprB (s, apprOf σ.appr s)) = (shotsL σ.appr).map fun s => apprB (s, apprOf σ.appr s) := by
  refine (srtS_uniq ?_ ?_).symm
  · refine List.Perm.map _ ?_
    unfold shotsL
    exact (srtS_perm _).trans hk.symm
  · rw [List.pairwise_map]
    have h1 : (shotsL σ.appr).Pairwise fun a b => a.data.toList ≤ b.data.toList := srtS_le _
    refine List.Pairwise.imp_of_mem ?_ h1
    intro s t _ ht h
    rw [shotsL_mem] at ht
    obtain ⟨p, hp, rfl⟩ := List.mem_map.1 ht
    exact appr_le (wf.appr p hp).1 h
theorem join_all : ∀ (L : List (List UInt8)), Lib.join L [] = L.flatten
  | [] => rfl
  | x :: r => by
    rw [Lib.join_cons, List.flatten_cons]
    unfold Lib.joinTail
    simp
theorem appr_join (A : List (ByteArray × ByteArray)) : Lib.join (((shotsL A).map fun s => apprB (s, apprOf A s)).map (·.data.toList)) [] = apprsT A A.length := by
  rw [join_all, ← shotsL_len A]
  unfold apprsT
  generalize shotsL A = S
  rw [List.map_map]
  have : (List.range S.length).flatMap (fun i => toL (apprB (sAt S i, apprOf A (sAt S i)))) = S.flatMap fun s => toL (apprB (s, apprOf A s)) := by
    have e : S = (List.range S.length).map fun i => sAt S i := by
      apply List.ext_getElem
      · simp
      · intro i h1 h2
        simp [sAt, h1]
    conv => rhs; rw [e]
    rw [List.flatMap_map]
  rw [this]
  rfl
theorem ofL_cat (l : List UInt8) (b : ByteArray) : ofL l ++ b = ofL (l ++ toL b) := by
  apply ofL_of
  rw [ByteArray.data_append, Array.toList_append]
  simp [ofL, toL]
/-- What a range gives for a key. -/
theorem appr_entry {A : List (ByteArray × ByteArray)} {es : List (Lit × DataW Unit)} (hn : (A.map (·.1)).Nodup) (hp : es.Perm (A.map lpair)) {s c : ByteArray} (h : ∀ zd, (DataW.map es).atKey (.string s.data.toList) zd = .lit (.string c.data.toList)) : apprOf A s = c ∧ ∃ p ∈ A, p.1 = s ∧ p.2 = c := by
  have hf := find_lpair s hn hp
  have h1 := h (.map [])
  unfold DataW.atKey at h1
  simp only [hf] at h1
  unfold apprOf getA
  cases hq : A.find? fun p => decide (p.1 = s) with
  | none =>
    rw [hq] at h1
    simp at h1
  | some p =>
    rw [hq] at h1
    simp only [Option.map_some, lpair] at h1
    have e : p.2 = c := bytes_inj.1 (by simpa using h1)
    refine ⟨e, p, List.mem_of_find?_eq_some hq, ?_, e⟩
    simpa using List.find?_some hq
end
end Go.Proofs.YtilninaminaadaaGreatDoor
