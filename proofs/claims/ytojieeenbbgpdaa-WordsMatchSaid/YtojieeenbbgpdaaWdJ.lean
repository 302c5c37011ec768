/- strings.ContainsAny of any text and the five signs. -/
import Derived.Test.YtojieeenbbgpdaaWdI
import Derived.Lib.Builder
namespace Go.Proofs.Ytojieeenbbgpdaa
open Go.RowKit

def iterAt (w : World) (g : Nat) (s : ByteArray) (pos : Nat) : World := { w with heap := w.heap.setIfInBounds g (.stringIter s pos) }
theorem iterAt_at {w : World} {g p pos : Nat} {s : ByteArray} (h : w.heap[g]? = some (.stringIter s p)) : (iterAt w g s pos).heap[g]? = some (.stringIter s pos) := by
  show (w.heap.setIfInBounds g _)[g]? = _
  rw [Array.getElem?_setIfInBounds_self_of_lt (Array.getElem?_eq_some_iff.1 h).1]
theorem iterAt_below {B g pos : Nat} {W w : World} {s : ByteArray} (h : Below B W w) (hg : B ≤ g) : Below B W (iterAt w g s pos) := by
  refine h.trans ⟨rfl, rfl, rfl, ?_, fun k hk => ?_⟩
  · show _ ≤ (w.heap.setIfInBounds g _).size
    rw [Array.size_setIfInBounds]; exact Nat.le_refl _
  · show (w.heap.setIfInBounds g _)[k]? = _
    rw [Array.getElem?_setIfInBounds_ne (by omega)]
theorem run_next_gen {P : Program} (w : World) (g : Nat) (s : ByteArray) (pos r k : Nat) (ty : TypeId) (hg : w.heap[g]? = some (.stringIter s pos)) (h : pos < s.size) (hd : Utf8.decode s pos = (r, k)) :
    (Instr.next (.pointer (some ⟨g, 0, none⟩)) true ty).run P w = .ok (.tuple #[.bool true, .int .i64 pos, .int .i32 r]) (iterAt w g s (pos + k)) := by
  simp only [Instr.next, getObj, setObj, Sem.run_bind, Sem.run, hg, Result.andThen, h, if_true, hd]
  simp [goInt, Sem.run, iterAt, hg]
theorem run_next_stop {P : Program} (w : World) (g : Nat) (s : ByteArray) (pos : Nat) (ty : TypeId) (hg : w.heap[g]? = some (.stringIter s pos)) (h : ¬ pos < s.size) :
    (Instr.next (.pointer (some ⟨g, 0, none⟩)) true ty).run P w = .ok (.tuple #[.bool false]) w := by
  simp [Instr.next, getObj, Sem.run, hg, h]

theorem get_list {s : ByteArray} {i : Nat} {b : UInt8} (h : s.data.toList[i]? = some b) : s.get! i = b := by
  obtain ⟨hi, rfl⟩ := List.getElem?_eq_some_iff.1 h
  rw [← Lib.size_eq] at hi
  rw [get_at hi]
  rfl
theorem noAny_jump {s : ByteArray} {l : List UInt8} {i k : Nat} (hl : ∀ b, b ∈ l → b.toNat < 128) (h : Lib.NoAny s.data.toList l i) (hj : ∀ j, j < k → 128 ≤ (s.get! (i + j)).toNat) : Lib.NoAny s.data.toList l (i + k) := by
  intro j b hjk hb
  by_cases hlt : j < i
  · exact h j b hlt hb
  · have h1 := hj (j - i) (by omega)
    rw [show i + (j - i) = j by omega, get_list hb] at h1
    rw [Bool.eq_false_iff]
    intro h3
    have := hl b (by simpa using h3)
    omega

set_option maxRecDepth 100000 in
set_option maxHeartbeats 4000000 in
theorem index_any_short (s cs : ByteArray) (w : World) (h5 : cs.size = 5) (ha : ∀ b, b ∈ cs.data.toList → b.toNat < 128) (h8 : s.size ≤ 8) :
    Calls Try.prog 16 #[.string s, .string cs] w fun e w' => e = .returned (.int .i64 (Lib.indexAny s.data.toList cs.data.toList)) ∧ Below w.heap.size w w' := by
  have HA := Lib.hid ha
  clear ha
  have hemp : cs.toList.isEmpty = false := by
    rw [Lib.toList_data]
    cases h : cs.data.toList with
    | nil => have := Lib.size_eq cs; rw [h, List.length_nil] at this; omega
    | cons _ _ => rfl
  have h8z : decide ((8 : Int) < (s.size : Int)) = false := decide_eq_false (by omega)
  obtain ⟨g0, hg0⟩ : ∃ g, w.heap.size = g := ⟨_, rfl⟩
  go_enter Try.func16, Try.ntmps16
  go_wp2_with (go_at_call 22; refine (Try.strings_shouldUseASCIISet _ _).mono ?_; rintro e w1 ⟨rfl, hw⟩; rw [hw, h8z]; clear hw)
  go_loopg [9, 10] s.size (fun g _ _ wx => ∃ i : Nat, i + g = s.size ∧ wx.heap[g0]? = some (.stringIter s i) ∧ Below g0 w wx ∧ Lib.NoAny s.data.toList cs.data.toList i)
  case atStart => exact ⟨0, by omega, by rw [← hg0]; exact World.iter_heap _ _ _, (Below.refl _ _).alloc (by omega) _, Lib.NoAny.zero _ _⟩
  case round =>
    obtain ⟨i, hig, hgi, B, hno⟩ := hrel
    have HN := Lib.hid hno
    clear hno
    cases gk with
    | zero =>
      have hnx := fun ty => run_next_stop (P := Try.prog) _ _ _ _ ty hgi (by omega)
      go_wp2_with fail
      go_ret
      exact ⟨by rw [Lib.indexAny_none (by rw [← Lib.size_eq, show s.size = i by omega]; exact HN.out)]; rfl, hg0 ▸ B⟩
    | succ g =>
      have hi : i < s.size := by omega
      obtain ⟨x, hx⟩ : ∃ x : UInt8, s[i]'hi = x := ⟨_, rfl⟩
      have Hx : Hid (s.data.toList[i]? = some x) := Lib.hid (by rw [← hx]; exact Lib.data_getElem? s i hi)
      by_cases hx128 : x.toNat < 128
      · have hd := decode_ascii s i hi (by rw [hx]; exact hx128)
        rw [hx] at hd
        have hnx := fun ty => run_next_gen (P := Try.prog) _ _ _ _ _ _ ty hgi hi hd
        obtain ⟨wn, hwn⟩ : ∃ wn, iterAt wr g0 s (i + 1) = wn := ⟨_, rfl⟩
        have B2 : Below g0 w wn := by rw [← hwn]; exact iterAt_below B (Nat.le_refl _)
        have hg2 := iterAt_at (pos := i + 1) hgi
        rw [hwn] at hnx hg2
        have hcon := Lib.contains_iff_indexByte cs.data.toList x
        have hback : ((x.toNat : Int)).toNat.toUInt8 = x := by simp
        clear hd hx hgi
        cases hin : cs.data.toList.contains x
        · rw [hin] at hcon
          have hlt : ¬ ((0 : Int) ≤ Lib.indexByte cs.data.toList x) := of_decide_eq_false hcon.symm
          clear hcon
          go_wp2_with (go_at_call 21; refine (Try.strings_IndexRune_ascii _ _ _ (by omega) (by omega)).mono ?_; rintro e w1 ⟨rfl, hw⟩; rw [hw, hback]; clear hw)
          go_roundg g
          case measure => omega
          case rel => exact ⟨i + 1, by omega, hg2, B2, HN.out.succ Hx.out hin⟩
        · rw [hin] at hcon
          have hge : (0 : Int) ≤ Lib.indexByte cs.data.toList x := of_decide_eq_true hcon.symm
          clear hcon
          go_wp2_with (go_at_call 21; refine (Try.strings_IndexRune_ascii _ _ _ (by omega) (by omega)).mono ?_; rintro e w1 ⟨rfl, hw⟩; rw [hw, hback]; clear hw)
          go_ret
          exact ⟨by rw [Lib.indexAny_hit HN.out Hx.out hin]; rfl, hg0 ▸ B2⟩
      · obtain ⟨r, k, hd, hr, hr2, hk, hik, hjs⟩ := decode_hi s i hi (by rw [hx]; omega)
        have HJ := Lib.hid hjs
        have hnx := fun ty => run_next_gen (P := Try.prog) _ _ _ _ _ _ ty hgi hi hd
        obtain ⟨wn, hwn⟩ : ∃ wn, iterAt wr g0 s (i + k) = wn := ⟨_, rfl⟩
        have B2 : Below g0 w wn := by rw [← hwn]; exact iterAt_below B (Nat.le_refl _)
        have hg2 := iterAt_at (pos := i + k) hgi
        rw [hwn] at hnx hg2
        have hlt : g0 < wn.heap.size := (Array.getElem?_eq_some_iff.1 hg2).1
        clear hd hx hgi hjs hwn
        go_wp2_with fail
        refine (index_rune_hi cs r _ h5 HA.out hr hr2).mono ?_
        rintro e w1 ⟨rfl, B3⟩
        have hg3 : w1.heap[g0]? = some (.stringIter s (i + k)) := (B3.block g0 hlt).trans hg2
        go_wp2_with fail
        go_roundg (s.size - (i + k))
        case measure => omega
        case rel => exact ⟨i + k, by omega, hg3, B2.trans (B3.mono (by omega)), noAny_jump HA.out HN.out HJ.out⟩

theorem ascii_at {cs : ByteArray} (ha : ∀ b, b ∈ cs.data.toList → b.toNat < 128) : ∀ (j : Nat) b, cs.data.toList[j]? = some b → b.toNat < 128 := fun _ _ h => ha _ (List.mem_of_getElem? h)

set_option maxRecDepth 1000000 in
set_option maxHeartbeats 8000000 in
theorem index_any_long (s cs : ByteArray) (w : World) (h5 : cs.size = 5) (ha : ∀ b, b ∈ cs.data.toList → b.toNat < 128) (h8 : 8 < s.size) (hs : s.size ≤ 281474976710656) :
    Calls Try.prog 16 #[.string s, .string cs] w fun e w' => e = .returned (.int .i64 (Lib.indexAny s.data.toList cs.data.toList)) ∧ Below w.heap.size w w' := by
  have hM := Try.strings_makeASCIISet (zero_of_info (n := 256) (by kernel_rfl)).1 cs w (by omega) (ascii_at ha)
  clear ha
  have hemp : cs.toList.isEmpty = false := by
    rw [Lib.toList_data]
    cases h : cs.data.toList with
    | nil => have := Lib.size_eq cs; rw [h, List.length_nil] at this; omega
    | cons _ _ => rfl
  have h8z : decide ((8 : Int) < (s.size : Int)) = true := decide_eq_true (by omega)
  have hsz := Lib.setCells_size cs.data.toList
  obtain ⟨M, hMd⟩ : ∃ M, Lib.setCells cs.data.toList = M := ⟨_, rfl⟩
  have h1c : M.all (·.oneCell') = true := by rw [← hMd]; exact Lib.setCells_one _
  have hcellAt : ∀ x : UInt8, M[x.toNat]? = some (.bool (cs.data.toList.contains x)) := fun x => by rw [← hMd]; exact Lib.setCells_at _ _
  rw [hMd] at hM hsz
  clear hMd
  have hsc : (storeCells ⟨w.heap.size + 1, 0, none⟩ M.toList 0).run Try.prog ((w.alloc (.cells M 61)).alloc (.cells Try.zeroCells61 61)) = .ok () ((w.alloc (.cells M 61)).alloc (.cells M 61)) := by
    have := run_storeCells_new (P := Try.prog) (w.alloc (.cells M 61)) 61 Try.zeroCells61 M (by rw [hsz]; kernel_rfl) (by rw [hsz]; kernel_rfl) h1c
    simpa using this
  have hC : Hid (∀ x : UInt8, ((w.alloc (.cells M 61)).alloc (.cells M 61)).cell? ⟨w.heap.size + 1, x.toNat, none⟩ = some (.bool (cs.data.toList.contains x))) := Lib.hid fun x => by
    rw [World.cell?_alloc_at _ _ _ _ (by simp)]; exact hcellAt x
  have hB : Below w.heap.size w ((w.alloc (.cells M 61)).alloc (.cells M 61)) := ((Below.refl _ _).alloc (Nat.le_refl _) _).alloc (by simp) _
  clear hcellAt h1c
  go_enter Try.func16, Try.ntmps16
  go_wp2_with (first
    | (go_at_call 22; refine (Try.strings_shouldUseASCIISet _ _).mono ?_; rintro e w1 ⟨rfl, hw⟩; rw [hw, h8z]; clear hw)
    | (go_at_call 23; refine hM.mono ?_; rintro e w1 ⟨rfl, hw⟩; rw [hw]; clear hw))
  refine name_world ?_
  intro w2 hw2
  rw [← hw2] at hC hB
  clear hw2 hsc hsz hM
  go_loopg [8] s.size (fun g s8 wx => ∃ i : Nat, i + g = s.size ∧ s8 = .int .i64 i ∧ wx = w2 ∧ Lib.NoAny s.data.toList cs.data.toList i)
  case atStart => exact ⟨0, by omega, rfl, rfl, Lib.NoAny.zero _ _⟩
  case round =>
    obtain ⟨i, hig, rfl, rfl, hno⟩ := hrel
    have HN := Lib.hid hno
    clear hno
    cases gk with
    | zero =>
      obtain rfl : i = s.size := by omega
      have hiz : decide ((s.size : Int) < (s.size : Int)) = false := decide_eq_false (by omega)
      go_wp2_with fail
      go_ret
      exact ⟨by rw [Lib.indexAny_none (by rw [← Lib.size_eq]; exact HN.out)]; rfl, hB⟩
    | succ g =>
      have hi : i < s.size := by omega
      obtain ⟨x, hx⟩ : ∃ x : UInt8, s[i]'hi = x := ⟨_, rfl⟩
      have Hx : Hid (s.data.toList[i]? = some x) := Lib.hid (by rw [← hx]; exact Lib.data_getElem? s i hi)
      have hcx := hC.out x
      cases hin : cs.data.toList.contains x <;> rw [hin] at hcx
      · go_wp2_with (go_at_call 24; refine (Try.asciiSet_contains _ x _ _ hcx).mono ?_; rintro e w1 ⟨rfl, hw⟩; rw [hw]; clear hw)
        go_roundg g
        case measure => omega
        case rel => exact ⟨i + 1, by omega, by go_num, rfl, HN.out.succ Hx.out hin⟩
      · go_wp2_with (go_at_call 24; refine (Try.asciiSet_contains _ x _ _ hcx).mono ?_; rintro e w1 ⟨rfl, hw⟩; rw [hw]; clear hw)
        go_ret
        exact ⟨by rw [Lib.indexAny_hit HN.out Hx.out hin]; rfl, hB⟩

theorem index_any_any (l cs : List UInt8) : decide (0 ≤ Lib.indexAny l cs) = l.any cs.contains := by
  induction l with
  | nil => rfl
  | cons b l ih =>
    rw [List.any_cons, ← ih, Lib.indexAny]
    cases cs.contains b
    · rw [Bool.false_or, if_neg Bool.false_ne_true]
      have hge := Lib.indexAny_ge cs l
      split
      · rename_i h; rw [beq_iff_eq.1 h]
      · rename_i h
        have h1 : Lib.indexAny l cs ≠ -1 := fun e => h (by rw [e]; rfl)
        rw [decide_eq_true (show (0 : Int) ≤ Lib.indexAny l cs + 1 by omega), decide_eq_true (show (0 : Int) ≤ Lib.indexAny l cs by omega)]
    · rfl
theorem special_in (b : UInt8) : ([32, 9, 34, 92, 10] : List UInt8).contains b = special b := by
  unfold special
  rw [List.contains_cons, List.contains_cons, List.contains_cons, List.contains_cons, List.contains_cons, List.contains_nil, Bool.or_false, Bool.or_assoc, Bool.or_assoc, Bool.or_assoc]

set_option maxRecDepth 100000 in
set_option maxHeartbeats 4000000 in
theorem contains_any (s : ByteArray) (w : World) (hs : s.size ≤ 281474976710656) :
    Calls Try.prog 9 #[.string s, .string ⟨#[32, 9, 34, 92, 10]⟩] w fun e w' => e = .returned (.bool (s.data.toList.any special)) ∧ Below w.heap.size w w' := by
  obtain ⟨cs, hcs⟩ : ∃ cs : ByteArray, (⟨#[32, 9, 34, 92, 10]⟩ : ByteArray) = cs := ⟨_, rfl⟩
  have h5 : cs.size = 5 := by rw [← hcs]; rfl
  have hl : cs.data.toList = [32, 9, 34, 92, 10] := by rw [← hcs]
  have ha : ∀ b, b ∈ cs.data.toList → b.toNat < 128 := by rw [hl]; decide
  have c : Calls Try.prog 16 #[.string s, .string cs] w fun e w' => e = .returned (.int .i64 (Lib.indexAny s.data.toList cs.data.toList)) ∧ Below w.heap.size w w' := by
    by_cases h8 : s.size ≤ 8
    · exact index_any_short s cs w h5 ha h8
    · exact index_any_long s cs w h5 ha (by omega) hs
  have hv := index_any_any s.data.toList cs.data.toList
  rw [hl, show ([32, 9, 34, 92, 10] : List UInt8).contains = special from funext special_in, ← hl] at hv
  rw [hcs]
  obtain ⟨v, hv2⟩ : ∃ v, s.data.toList.any special = v := ⟨_, rfl⟩
  rw [hv2] at hv ⊢
  clear hcs hl ha hv2
  go_enter Try.func9, Try.ntmps9
  go_wp2_with fail
  refine c.mono ?_
  rintro e w1 ⟨rfl, B⟩
  go_wp2_with fail
  go_ret
  exact ⟨rfl, B⟩
end Go.Proofs.Ytojieeenbbgpdaa
