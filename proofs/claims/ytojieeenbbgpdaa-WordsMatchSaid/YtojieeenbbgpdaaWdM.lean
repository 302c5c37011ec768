/- (*strings.Replacer).build at the six strings. (printed by gen_wdm.py) -/
import Derived.Test.YtojieeenbbgpdaaWdN
import Derived.Deep.WholeRow
import Derived.Lib.SliceRun
import Derived.Laws.Cover3
namespace Go.Proofs.Ytojieeenbbgpdaa
open Go.RowKit

@[go_sem] theorem wd_eql_nil (w : World) (a : Option Addr) (n c : Nat) : (binOp .eql 57 (.slice a n c) (.slice none 0 0)).run Try.prog w = .ok (.bool a.isNone) w := Lib.run_eql_slice_nil w _ _ a n c 0 0 Try.underlying57
@[go_sem] theorem wd_neq_nil (w : World) (a : Option Addr) (n c : Nat) : (binOp .neq 57 (.slice a n c) (.slice none 0 0)).run Try.prog w = .ok (.bool (!a.isNone)) w := run_neq_slice_nil w _ _ a n c Try.underlying57
def doneL : List UInt8 := [10, 34, 92]
/-- v is a slice of the two bytes that stand for c. -/
def RvOk (lo : Nat) (w : World) (c : UInt8) (v : Value) : Prop := ∃ (b k : Nat) (fz : Nat × Nat) (cs : Array Value), v = .slice (some ⟨b, 0, none⟩) 2 k ∧ lo ≤ b ∧ w.heap[b]? = some (.cells cs 5 fz) ∧ ∀ (j : Nat) (x : UInt8), (escB c)[j]? = some x → cs[j]? = some (byV x)
def RvAll (lo : Nat) (w : World) (D : List UInt8) (C : Array Value) : Prop := ∀ c : UInt8, if c ∈ D then ∃ v, C[c.toNat]? = some v ∧ RvOk lo w c v else C[c.toNat]? = some (.slice none 0 0)
def RepB (B G : Nat) (w : World) (k : Nat) (C : Array Value) : Prop :=
  Bx w (G + 1) 85 C ∧ C.size = 257 ∧ C[256]? = some (.slice (some ⟨G, 0, none⟩) k 3) ∧ w.ownsRow G 9 1 (.slice (some ⟨G, 0, none⟩) k 3) k ((doneL.take k).map fun c => .string ⟨#[c]⟩) ∧ RvAll (G + 2) w (doneL.take k) C
theorem RvOk.lt {lo : Nat} {w : World} {c : UInt8} {v : Value} (h : RvOk lo w c v) : True := trivial
theorem rv_keep {lo : Nat} {w w' : World} {D : List UInt8} {C : Array Value} (h : RvAll lo w D C) (hb : ∀ b, lo ≤ b → b < w.heap.size → w'.heap[b]? = w.heap[b]?) : RvAll lo w' D C := by
  intro c
  have := h c
  split
  · rename_i hc
    rw [if_pos hc] at this
    obtain ⟨v, h1, b, k, fz, cs, h2, h3, h4, h5⟩ := this
    exact ⟨v, h1, b, k, fz, cs, h2, h3, by rw [hb b h3 (Array.getElem?_eq_some_iff.1 h4).1]; exact h4, h5⟩
  · rename_i hc
    rw [if_neg hc] at this
    exact this
theorem heap2 {w : World} {o1 o2 : Obj} {k : Nat} (h : k < w.heap.size) : ((w.alloc o1).alloc o2).heap[k]? = w.heap[k]? := by
  show ((w.heap.push o1).push o2)[k]? = _
  rw [Array.getElem?_push, if_neg (by simp; omega), Array.getElem?_push, if_neg (by omega)]
theorem own_heap {w w' : World} {B g n c : Nat} {T : TypeId} {xs : List Value} (h : w.ownsRow B T 1 (.slice (some ⟨g, 0, none⟩) n c) n xs) (hb : w'.heap[g]? = w.heap[g]?) : w'.ownsRow B T 1 (.slice (some ⟨g, 0, none⟩) n c) n xs := by
  refine ⟨h.1, ?_⟩
  rcases h.2 with ⟨h0, _⟩ | ⟨g1, cap, cur, e1, e2, e3, e4⟩
  · cases h0
  · have : g1 = g := by simp at e1; exact e1.1.symm
    subst this
    exact .inr ⟨_, cap, cur, e1, e2, hb.trans e3, e4⟩
theorem own_al {w : World} {o1 o2 : Obj} {B g n c : Nat} {T : TypeId} {xs : List Value} (h : w.ownsRow B T 1 (.slice (some ⟨g, 0, none⟩) n c) n xs) (hg : g < w.heap.size) : ((w.alloc o1).alloc o2).ownsRow B T 1 (.slice (some ⟨g, 0, none⟩) n c) n xs ∧ True := ⟨own_heap h (heap2 hg), trivial⟩
theorem own_put {w : World} {B g n c b o : Nat} {u : Value} {T : TypeId} {xs : List Value} (h : w.ownsRow B T 1 (.slice (some ⟨g, 0, none⟩) n c) n xs) (hg : g ≠ b) : (w.setCell ⟨b, o, none⟩ u).ownsRow B T 1 (.slice (some ⟨g, 0, none⟩) n c) n xs := own_heap h (Below.heap_setCell _ _ _ _ (by dsimp only; omega))
theorem bytesRow_at (e1 e2 : UInt8) (cp j : Nat) (x : UInt8) (h : ([e1, e2] : List UInt8)[j]? = some x) : (bytesRow ⟨#[e1, e2]⟩ cp)[j]? = some (byV x) := by
  unfold bytesRow
  have hj : j < 2 := by have := (List.getElem?_eq_some_iff.1 h).1; simpa using this
  rw [Array.getElem?_append_left (by simpa using hj)]
  simp only [Array.getElem?_map]
  rcases (by omega : j = 0 ∨ j = 1) with rfl | rfl
  · simp at h; subst h; rfl
  · simp at h; subst h; rfl
theorem rep_step {B G k cp : Nat} {c e1 e2 : UInt8} {w : World} {C : Array Value} (hdk : doneL.take (k + 1) = doneL.take k ++ [c]) (he : escB c = [e1, e2]) (hlt : c.toNat ≠ 256) (hG : G + 1 < w.heap.size)
    (x : Bx w (G + 1) 85 (C.setIfInBounds 256 (.slice (some ⟨G, 0, none⟩) (k + 1) 3))) (hsz : C.size = 257) (hown : w.ownsRow G 9 1 (.slice (some ⟨G, 0, none⟩) (k + 1) 3) (k + 1) ((doneL.take (k + 1)).map fun c => .string ⟨#[c]⟩)) (hrv : RvAll (G + 2) w (doneL.take k) C) (_l : G + 1 < w.heap.size) :
    RepB B G (((w.setCell ⟨G + 1, c.toNat, none⟩ (.slice (some ⟨w.heap.size, 0, none⟩) 2 cp)).alloc (.cells (bytesRow ⟨#[e1, e2]⟩ cp) 5 ((bytesRow ⟨#[e1, e2]⟩ cp).size, (bytesRow ⟨#[e1, e2]⟩ cp).size + 1))).drew) (k + 1) ((C.setIfInBounds 256 (.slice (some ⟨G, 0, none⟩) (k + 1) 3)).setIfInBounds c.toNat (.slice (some ⟨w.heap.size, 0, none⟩) 2 cp)) := by
  have hc256 := c.toNat_lt
  have hsw : (w.setCell ⟨G + 1, c.toNat, none⟩ (.slice (some ⟨w.heap.size, 0, none⟩) 2 cp)).heap.size = w.heap.size := by simp
  have hold1 : ∀ b, b < w.heap.size → (((w.setCell ⟨G + 1, c.toNat, none⟩ (.slice (some ⟨w.heap.size, 0, none⟩) 2 cp)).alloc (.cells (bytesRow ⟨#[e1, e2]⟩ cp) 5 ((bytesRow ⟨#[e1, e2]⟩ cp).size, (bytesRow ⟨#[e1, e2]⟩ cp).size + 1))).drew).heap[b]? = (w.setCell ⟨G + 1, c.toNat, none⟩ (.slice (some ⟨w.heap.size, 0, none⟩) 2 cp)).heap[b]? := by
    intro b hb
    show ((w.setCell ⟨G + 1, c.toNat, none⟩ (.slice (some ⟨w.heap.size, 0, none⟩) 2 cp)).heap.push _)[b]? = _
    rw [Array.getElem?_push, if_neg (by rw [hsw]; omega)]
  have hold : ∀ b, b < w.heap.size → b ≠ G + 1 → (((w.setCell ⟨G + 1, c.toNat, none⟩ (.slice (some ⟨w.heap.size, 0, none⟩) 2 cp)).alloc (.cells (bytesRow ⟨#[e1, e2]⟩ cp) 5 ((bytesRow ⟨#[e1, e2]⟩ cp).size, (bytesRow ⟨#[e1, e2]⟩ cp).size + 1))).drew).heap[b]? = w.heap[b]? := by
    intro b hb hne
    rw [hold1 b hb, Below.heap_setCell _ _ _ _ (by dsimp only; omega)]
  have hnew : (((w.setCell ⟨G + 1, c.toNat, none⟩ (.slice (some ⟨w.heap.size, 0, none⟩) 2 cp)).alloc (.cells (bytesRow ⟨#[e1, e2]⟩ cp) 5 ((bytesRow ⟨#[e1, e2]⟩ cp).size, (bytesRow ⟨#[e1, e2]⟩ cp).size + 1))).drew).heap[w.heap.size]? = some (.cells (bytesRow ⟨#[e1, e2]⟩ cp) 5 ((bytesRow ⟨#[e1, e2]⟩ cp).size, (bytesRow ⟨#[e1, e2]⟩ cp).size + 1)) := by
    show ((w.setCell ⟨G + 1, c.toNat, none⟩ (.slice (some ⟨w.heap.size, 0, none⟩) 2 cp)).heap.push _)[w.heap.size]? = _
    rw [Array.getElem?_push, if_pos hsw.symm]
  refine ⟨?_, by simp [hsz], ?_, ?_, ?_⟩
  · unfold Bx
    rw [hold1 _ hG]; exact x.set _ _
  · rw [Array.getElem?_setIfInBounds_ne hlt, Array.getElem?_setIfInBounds_self_of_lt (by rw [hsz]; decide)]
  · exact own_heap hown (hold _ (by omega) (by omega))
  · intro d
    by_cases hd : d = c
    · subst hd
      rw [hdk, if_pos (by simp)]
      refine ⟨_, Array.getElem?_setIfInBounds_self_of_lt (by simp; omega), w.heap.size, cp, ((bytesRow ⟨#[e1, e2]⟩ cp).size, (bytesRow ⟨#[e1, e2]⟩ cp).size + 1), bytesRow ⟨#[e1, e2]⟩ cp, rfl, by omega, ?_, ?_⟩
      · exact hnew
      · intro j x hx; rw [he] at hx; exact bytesRow_at e1 e2 cp j x hx
    · have hdn : d.toNat ≠ c.toNat := fun h => hd (UInt8.toNat_inj.1 h)
      have hd256 := d.toNat_lt
      have := hrv d
      rw [hdk]
      by_cases hm : d ∈ doneL.take k
      · rw [if_pos hm] at this
        rw [if_pos (by simp [hm])]
        obtain ⟨v, h1, b, k', fz, cs, h2, h3, h4, h5⟩ := this
        refine ⟨v, by rw [Array.getElem?_setIfInBounds_ne (by omega), Array.getElem?_setIfInBounds_ne (by omega)]; exact h1, b, k', fz, cs, h2, h3, ?_, h5⟩
        rw [hold b (Array.getElem?_eq_some_iff.1 h4).1 (by omega)]; exact h4
      · rw [if_neg hm] at this
        rw [if_neg (by simp [hm, hd]), Array.getElem?_setIfInBounds_ne (by omega), Array.getElem?_setIfInBounds_ne (by omega)]; exact this
/-- What build makes. -/
def BuiltR (W : World) (e : Ending) (w' : World) : Prop := ∃ G C, W.heap.size ≤ G ∧ e = .returned (.iface 86 (.pointer (some ⟨G + 1, 0, none⟩))) ∧ RepB W.heap.size G w' 3 C ∧ Below W.heap.size W w'

set_option maxRecDepth 100000 in
set_option maxHeartbeats 8000000 in
theorem replacer_build (p b c : Nat) (d m s : Value) (W : World) (x : Bx W p 54 #[d, m, s, .nilIface, .slice (some ⟨b, 0, none⟩) 6 c]) (hb : b < W.heap.size) (hc : ∀ j v, onCells.toList[j]? = some v → W.cell? ⟨b, j, none⟩ = some v) : Calls Try.prog 27 #[.pointer (some ⟨p, 0, none⟩)] W fun e w' => BuiltR W e w' := by
  obtain ⟨q4, f4, l4⟩ := x.all
  have c0 := hc 0 _ rfl
  have c1 := hc 1 _ rfl
  have c2 := hc 2 _ rfl
  have c3 := hc 3 _ rfl
  have c4 := hc 4 _ rfl
  have c5 := hc 5 _ rfl
  clear hc
  go_enter Try.func27, Try.ntmps27
  go_wp2_with fail
  go_loopw [4, 5] (fun an i wr => ∃ (k : Nat), (k = 0 ∧ an = .bool true ∧ i = .int .i64 0 ∨ k = 1 ∧ an = .bool false ∧ i = .int .i64 2 ∨ k = 2 ∧ an = .bool false ∧ i = .int .i64 4 ∨ k = 3 ∧ an = .bool false ∧ i = .int .i64 6) ∧ wr = W) (fun _ i _ => 6 - (intOf i).toNat)
  case atStart => exact ⟨0, .inl ⟨rfl, rfl, rfl⟩, rfl⟩
  case round =>
    obtain ⟨k, hk, hwr⟩ := hrel
    subst hwr
    rcases hk with ⟨rfl, rfl, rfl⟩ | ⟨rfl, rfl, rfl⟩ | ⟨rfl, rfl, rfl⟩ | ⟨rfl, rfl, rfl⟩
    · go_wp2_with fail
      go_roundw
      case rel => exact ⟨1, .inr (.inl ⟨rfl, rfl, rfl⟩), trivial⟩
      case measure => decide
    · go_wp2_with fail
      go_roundw
      case rel => exact ⟨2, .inr (.inr (.inl ⟨rfl, rfl, rfl⟩)), trivial⟩
      case measure => decide
    · go_wp2_with fail
      go_roundw
      case rel => exact ⟨3, .inr (.inr (.inr ⟨rfl, rfl, rfl⟩)), trivial⟩
      case measure => decide
    · go_upto_region 26 with fail
      obtain ⟨wr0, hwr0⟩ : ∃ w0, w0 = wr := ⟨_, rfl⟩
      obtain ⟨i0, hi, hz0, hzz, hz2⟩ := info_parts infoS
      have hmk := run_make (P := Try.prog) wr 22 9 i0 (.string ⟨#[]⟩) Try.underlying22 hi hz0 .i64 .i64 0 3 (by omega) (by omega) (by rw [hz2]; decide) (by decide)
      obtain ⟨M, hM⟩ : ∃ M, madeCells (Value.string ⟨#[]⟩).cells 3 = M := ⟨_, rfl⟩
      have hMs : M.size = 3 := by rw [← hM]; exact size_madeCells _ _
      rw [hzz, show Int.toNat 3 * 1 = 3 from rfl, hM] at hmk
      clear hM
      subst hwr0
      replace hmk : (Instr.makeSlice 22 (.int .i64 0) (.int .i64 3)).run Try.prog wr0 = .ok (.slice (some ⟨wr0.heap.size, 0, none⟩) 0 3) (wr0.alloc (.cells M 9)) := hmk
      obtain ⟨C, hC⟩ : ∃ C : Array Value, (Try.zeroCells85.toList.set 256 (.slice (some ⟨wr0.heap.size, 0, none⟩) 0 3)).toArray = C := ⟨_, rfl⟩
      have hz : Try.zeroCells85 = Array.replicate 257 (.slice none 0 0) := by kernel_rfl
      have hCs : C.size = 257 := by rw [← hC, hz]; simp
      have hCl : Try.zeroCells85.toList.set 256 (.slice (some ⟨wr0.heap.size, 0, none⟩) 0 3) = C.toList := by rw [← hC]
      have hst := run_storeCells_new (P := Try.prog) (wr0.alloc (.cells M 9)) 85 Try.zeroCells85 C (by rw [hCs]; kernel_rfl) (by rw [hCs, hz]; simp) (by rw [← hC, hz]; simp; exact ⟨rfl, rfl⟩)
      rw [← hCl] at hst
      replace hst : (storeCells ⟨wr0.heap.size + 1, 0, none⟩ (Try.zeroCells85.toList.set 256 (.slice (some ⟨wr0.heap.size, 0, none⟩) 0 3))).run Try.prog ((wr0.alloc (.cells M 9)).alloc (.cells Try.zeroCells85 85)) = .ok () ((wr0.alloc (.cells M 9)).alloc (.cells C 85)) := by
        rw [show wr0.heap.size + 1 = (wr0.alloc (.cells M 9)).heap.size by simp]; exact hst
      have h256 : C[256]? = some (.slice (some ⟨wr0.heap.size, 0, none⟩) 0 3) := by rw [← hC, hz]; simp
      have hnil : ∀ c : UInt8, C[c.toNat]? = some (.slice none 0 0) := by
        intro c
        have := c.toNat_lt
        rw [← hC, hz, List.getElem?_toArray, List.getElem?_set_ne (by omega), Array.toList_replicate, List.getElem?_replicate, if_pos (by omega)]
      clear hCl hC hz
      go_wp2_with fail
      refine name_world ?_
      intro w2 hw2
      have x2 : Bx w2 (wr0.heap.size + 1) 85 C := by rw [hw2]; exact Bx.at _ (by simp)
      have hown2 : w2.ownsRow wr0.heap.size 9 1 (.slice (some ⟨wr0.heap.size, 0, none⟩) 0 3) 0 [] := by
        refine ⟨rfl, .inr ⟨wr0.heap.size, 3, M, rfl, Nat.le_refl _, ?_, by decide, by decide, by rw [hMs], rfl⟩⟩
        rw [hw2]
        show ((wr0.heap.push _).push _)[wr0.heap.size]? = _
        rw [Array.getElem?_push, if_neg (by simp), Array.getElem?_push, if_pos rfl]
      have B2 : Below wr0.heap.size wr0 w2 := by rw [hw2]; exact bnew (bnew (Below.refl _ _))
      have hR2 : RepB wr0.heap.size wr0.heap.size w2 0 C := ⟨x2, hCs, h256, hown2, fun c => by rw [if_neg (by simp [doneL])]; exact hnil c⟩
      have hb0 := Lib.hid hb
      clear hw2 x2 hown2 hst hmk hCs h256 hnil hMs hz0 hz2
      go_loopw [12] (fun i wr => ∃ (k : Nat) (C : Array Value) (iv : Int), i = .int .i64 iv ∧ (k = 0 ∧ iv = 4 ∨ k = 1 ∧ iv = 2 ∨ k = 2 ∧ iv = 0 ∨ k = 3 ∧ iv = -2) ∧ RepB wr0.heap.size wr0.heap.size wr k C ∧ Below wr0.heap.size wr0 wr) (fun i _ => (intOf i + 2).toNat)
      case atStart => exact ⟨0, C, 4, rfl, .inl ⟨rfl, rfl⟩, hR2, B2⟩
      case round =>
        clear hR2 B2
        obtain ⟨k, C, iv, rfl, hk, hR, B⟩ := hrel
        replace c0 : wr.cell? ⟨b, 0, none⟩ = _ := (B.cell (p := ⟨b, 0, none⟩) hb).trans c0
        replace c1 : wr.cell? ⟨b, 1, none⟩ = _ := (B.cell (p := ⟨b, 1, none⟩) hb).trans c1
        replace c2 : wr.cell? ⟨b, 2, none⟩ = _ := (B.cell (p := ⟨b, 2, none⟩) hb).trans c2
        replace c3 : wr.cell? ⟨b, 3, none⟩ = _ := (B.cell (p := ⟨b, 3, none⟩) hb).trans c3
        replace c4 : wr.cell? ⟨b, 4, none⟩ = _ := (B.cell (p := ⟨b, 4, none⟩) hb).trans c4
        replace c5 : wr.cell? ⟨b, 5, none⟩ = _ := (B.cell (p := ⟨b, 5, none⟩) hb).trans c5
        have hsG := hR.1.lt
        rcases hk with ⟨rfl, rfl⟩ | ⟨rfl, rfl⟩ | ⟨rfl, rfl⟩ | ⟨rfl, rfl⟩
        · obtain ⟨x5, hsz, h256, hown, hrv⟩ := hR
          obtain ⟨q5, f5, l5⟩ := x5.all
          have hcc : C[10]? = some (.slice none 0 0) := by have := hrv 10; rw [if_neg (by decide)] at this; exact this
          have p256 : wr.cell? ⟨wr0.heap.size + 1, 256, none⟩ = some (.slice (some ⟨wr0.heap.size, 0, none⟩) 0 3) := (q5 256).trans h256
          have pcc : wr.cell? ⟨wr0.heap.size + 1, 10, none⟩ = some (.slice none 0 0) := (q5 10).trans hcc
          clear q5
          have hby : ((⟨#[10]⟩ : ByteArray)[0]'(by decide)).toNat = 10 := rfl
          go_upto_region 33 with fail
          have hcv := run_convert_bytes_back (P := Try.prog) (wr.alloc (.cells #[.int .u8 10] 5)) 57 9 5 ⟨wr.heap.size, 0, none⟩ 1 [10] Try.underlying57 Try.underlying5 Try.underlying9 (fun j hj => by
            obtain rfl : j = 0 := by simpa using hj
            exact (Bx.new wr 5 #[.int .u8 10]).all.1 0)
          replace hcv : (convert 57 9 (.slice (some ⟨wr.heap.size, 0, none⟩) 1 1)).run Try.prog (wr.alloc (.cells #[.int .u8 10] 5)) = .ok (.string ⟨#[10]⟩) (wr.alloc (.cells #[.int .u8 10] 5)) := hcv
          have hown2 : ((wr.alloc (.cells #[.int .u8 10] 5)).alloc (.cells #[.string ⟨#[10]⟩] 9)).ownsRow wr0.heap.size 9 1 (.slice (some ⟨wr0.heap.size, 0, none⟩) 0 3) 0 _ := (own_al hown (by omega)).1
          have hxn := (Bx.new (wr.alloc (.cells #[.int .u8 10] 5)) 9 #[.string ⟨#[10]⟩]).all.1
          go_wp2_with (at_builtin; refine wpList_append_fits _ rfl (.tmp 119) (.tmp 123) 22 rfl wr0.heap.size 9 i0 1 Try.underlying22 hi hzz wr0.heap.size 0 3 _ rfl hown2 ⟨wr.heap.size + 1, 0, none⟩ 1 1 [.string ⟨#[10]⟩] rfl rfl ?a0 ?b0 (by omega) ?_)
          case a0 =>
            intro j u hu
            obtain rfl : j = 0 := by have := (List.getElem?_eq_some_iff.1 hu).1; simpa using this
            have h := (hxn 0).trans hu
            simpa [Addr.add] using h
          case b0 => intro u hu; simp at hu; subst hu; rfl
          intro w7 hown7 hg7
          have hb7 : ∀ k, k < wr.heap.size → k ≠ wr0.heap.size → w7.heap[k]? = wr.heap[k]? := fun k hk hne => by
            rw [hg7.block k (by simp; omega) (by simpa using hne)]
            exact heap2 hk
          have hs7 : wr.heap.size ≤ w7.heap.size := by have := hg7.size; simp at this; omega
          have B7 : Below wr0.heap.size wr0 w7 := (bnew (bnew B)).grown hg7 (by simp; omega) (fun k hk => by simp at hk; omega)
          clear hown2 hxn hcv hg7 p256 pcc
          have x7 : Bx w7 (wr0.heap.size + 1) 85 C := by unfold Bx; rw [hb7 _ l5 (by omega)]; exact x5
          have hrv7 : RvAll (wr0.heap.size + 2) w7 (doneL.take 0) C := rv_keep hrv (fun b hb hlt => hb7 b hlt (by omega))
          clear x5 f5 hrv B
          obtain ⟨q7, f7, l7⟩ := x7.all
          go_upto_region 34 with fail
          refine name_world ?_
          intro w8 hw8
          have x8 : Bx w8 (wr0.heap.size + 1) 85 (C.setIfInBounds 256 (.slice (some ⟨wr0.heap.size, 0, none⟩) 1 3)) := by rw [hw8]; exact x7.set 256 _
          have hown8 : w8.ownsRow wr0.heap.size 9 1 (.slice (some ⟨wr0.heap.size, 0, none⟩) 1 3) 1 ((doneL.take 1).map fun c => .string ⟨#[c]⟩) := by rw [hw8]; exact own_put hown7 (by omega)
          have hrv8 : RvAll (wr0.heap.size + 2) w8 (doneL.take 0) C := rv_keep hrv7 (fun b hb hlt => by rw [hw8]; exact Below.heap_setCell _ _ _ _ (by dsimp only; omega))
          have B8 : Below wr0.heap.size wr0 w8 := by rw [hw8]; exact bput (by omega) B7
          clear hw8 x7 hrv7 B7 q7 f7 hown7
          obtain ⟨q8, f8, l8⟩ := x8.all
          have p8 : w8.cell? ⟨wr0.heap.size + 1, 10, none⟩ = some (.slice none 0 0) := by rw [q8 10, Array.getElem?_setIfInBounds_ne (by decide)]; exact hcc
          clear q8
          have hsb := run_bytes_of_string (P := Try.prog) w8 9 57 5 ⟨#[92, 110]⟩ Try.underlying9 Try.underlying57 Try.underlying5
          obtain ⟨cp, hcp⟩ : ∃ cp, grownCap w8 (⟨#[92, 110]⟩ : ByteArray).size 0 5 = cp := ⟨_, rfl⟩
          rw [hcp] at hsb
          replace hsb : (convert 9 57 (.string ⟨#[92, 110]⟩)).run Try.prog w8 = .ok (.slice (some ⟨w8.heap.size, 0, none⟩) 2 cp) (w8.drew.alloc (.cells (bytesRow ⟨#[92, 110]⟩ cp) 5 ((bytesRow ⟨#[92, 110]⟩ cp).size, (bytesRow ⟨#[92, 110]⟩ cp).size + 1))) := hsb
          have hR8 : RepB wr0.heap.size wr0.heap.size (((w8.setCell ⟨wr0.heap.size + 1, 10, none⟩ (.slice (some ⟨w8.heap.size, 0, none⟩) 2 cp)).alloc (.cells (bytesRow ⟨#[92, 110]⟩ cp) 5 ((bytesRow ⟨#[92, 110]⟩ cp).size, (bytesRow ⟨#[92, 110]⟩ cp).size + 1))).drew) 1 ((C.setIfInBounds 256 (.slice (some ⟨wr0.heap.size, 0, none⟩) 1 3)).setIfInBounds 10 (.slice (some ⟨w8.heap.size, 0, none⟩) 2 cp)) :=
            rep_step (c := 10) (e1 := 92) (e2 := 110) rfl rfl (by decide) (by omega) x8 hsz hown8 hrv8 l8
          have B9 : Below wr0.heap.size wr0 (((w8.setCell ⟨wr0.heap.size + 1, 10, none⟩ (.slice (some ⟨w8.heap.size, 0, none⟩) 2 cp)).alloc (.cells (bytesRow ⟨#[92, 110]⟩ cp) 5 ((bytesRow ⟨#[92, 110]⟩ cp).size, (bytesRow ⟨#[92, 110]⟩ cp).size + 1))).drew) := below_drewN (bnew (bput (by omega) B8)) 1
          clear hcp x8 hown8 hrv8 B8
          go_wp2_with fail
          go_roundw
          case rel => exact ⟨1, _, 2, by first | rfl | go_num, by decide, hR8, B9⟩
          case measure => simp [intOf]
        · obtain ⟨x5, hsz, h256, hown, hrv⟩ := hR
          obtain ⟨q5, f5, l5⟩ := x5.all
          have hcc : C[34]? = some (.slice none 0 0) := by have := hrv 34; rw [if_neg (by decide)] at this; exact this
          have p256 : wr.cell? ⟨wr0.heap.size + 1, 256, none⟩ = some (.slice (some ⟨wr0.heap.size, 0, none⟩) 1 3) := (q5 256).trans h256
          have pcc : wr.cell? ⟨wr0.heap.size + 1, 34, none⟩ = some (.slice none 0 0) := (q5 34).trans hcc
          clear q5
          have hby : ((⟨#[34]⟩ : ByteArray)[0]'(by decide)).toNat = 34 := rfl
          go_upto_region 33 with fail
          have hcv := run_convert_bytes_back (P := Try.prog) (wr.alloc (.cells #[.int .u8 34] 5)) 57 9 5 ⟨wr.heap.size, 0, none⟩ 1 [34] Try.underlying57 Try.underlying5 Try.underlying9 (fun j hj => by
            obtain rfl : j = 0 := by simpa using hj
            exact (Bx.new wr 5 #[.int .u8 34]).all.1 0)
          replace hcv : (convert 57 9 (.slice (some ⟨wr.heap.size, 0, none⟩) 1 1)).run Try.prog (wr.alloc (.cells #[.int .u8 34] 5)) = .ok (.string ⟨#[34]⟩) (wr.alloc (.cells #[.int .u8 34] 5)) := hcv
          have hown2 : ((wr.alloc (.cells #[.int .u8 34] 5)).alloc (.cells #[.string ⟨#[34]⟩] 9)).ownsRow wr0.heap.size 9 1 (.slice (some ⟨wr0.heap.size, 0, none⟩) 1 3) 1 _ := (own_al hown (by omega)).1
          have hxn := (Bx.new (wr.alloc (.cells #[.int .u8 34] 5)) 9 #[.string ⟨#[34]⟩]).all.1
          go_wp2_with (at_builtin; refine wpList_append_fits _ rfl (.tmp 119) (.tmp 123) 22 rfl wr0.heap.size 9 i0 1 Try.underlying22 hi hzz wr0.heap.size 1 3 _ rfl hown2 ⟨wr.heap.size + 1, 0, none⟩ 1 1 [.string ⟨#[34]⟩] rfl rfl ?a1 ?b1 (by omega) ?_)
          case a1 =>
            intro j u hu
            obtain rfl : j = 0 := by have := (List.getElem?_eq_some_iff.1 hu).1; simpa using this
            have h := (hxn 0).trans hu
            simpa [Addr.add] using h
          case b1 => intro u hu; simp at hu; subst hu; rfl
          intro w7 hown7 hg7
          have hb7 : ∀ k, k < wr.heap.size → k ≠ wr0.heap.size → w7.heap[k]? = wr.heap[k]? := fun k hk hne => by
            rw [hg7.block k (by simp; omega) (by simpa using hne)]
            exact heap2 hk
          have hs7 : wr.heap.size ≤ w7.heap.size := by have := hg7.size; simp at this; omega
          have B7 : Below wr0.heap.size wr0 w7 := (bnew (bnew B)).grown hg7 (by simp; omega) (fun k hk => by simp at hk; omega)
          clear hown2 hxn hcv hg7 p256 pcc
          have x7 : Bx w7 (wr0.heap.size + 1) 85 C := by unfold Bx; rw [hb7 _ l5 (by omega)]; exact x5
          have hrv7 : RvAll (wr0.heap.size + 2) w7 (doneL.take 1) C := rv_keep hrv (fun b hb hlt => hb7 b hlt (by omega))
          clear x5 f5 hrv B
          obtain ⟨q7, f7, l7⟩ := x7.all
          go_upto_region 34 with fail
          refine name_world ?_
          intro w8 hw8
          have x8 : Bx w8 (wr0.heap.size + 1) 85 (C.setIfInBounds 256 (.slice (some ⟨wr0.heap.size, 0, none⟩) 2 3)) := by rw [hw8]; exact x7.set 256 _
          have hown8 : w8.ownsRow wr0.heap.size 9 1 (.slice (some ⟨wr0.heap.size, 0, none⟩) 2 3) 2 ((doneL.take 2).map fun c => .string ⟨#[c]⟩) := by rw [hw8]; exact own_put hown7 (by omega)
          have hrv8 : RvAll (wr0.heap.size + 2) w8 (doneL.take 1) C := rv_keep hrv7 (fun b hb hlt => by rw [hw8]; exact Below.heap_setCell _ _ _ _ (by dsimp only; omega))
          have B8 : Below wr0.heap.size wr0 w8 := by rw [hw8]; exact bput (by omega) B7
          clear hw8 x7 hrv7 B7 q7 f7 hown7
          obtain ⟨q8, f8, l8⟩ := x8.all
          have p8 : w8.cell? ⟨wr0.heap.size + 1, 34, none⟩ = some (.slice none 0 0) := by rw [q8 34, Array.getElem?_setIfInBounds_ne (by decide)]; exact hcc
          clear q8
          have hsb := run_bytes_of_string (P := Try.prog) w8 9 57 5 ⟨#[92, 34]⟩ Try.underlying9 Try.underlying57 Try.underlying5
          obtain ⟨cp, hcp⟩ : ∃ cp, grownCap w8 (⟨#[92, 34]⟩ : ByteArray).size 0 5 = cp := ⟨_, rfl⟩
          rw [hcp] at hsb
          replace hsb : (convert 9 57 (.string ⟨#[92, 34]⟩)).run Try.prog w8 = .ok (.slice (some ⟨w8.heap.size, 0, none⟩) 2 cp) (w8.drew.alloc (.cells (bytesRow ⟨#[92, 34]⟩ cp) 5 ((bytesRow ⟨#[92, 34]⟩ cp).size, (bytesRow ⟨#[92, 34]⟩ cp).size + 1))) := hsb
          have hR8 : RepB wr0.heap.size wr0.heap.size (((w8.setCell ⟨wr0.heap.size + 1, 34, none⟩ (.slice (some ⟨w8.heap.size, 0, none⟩) 2 cp)).alloc (.cells (bytesRow ⟨#[92, 34]⟩ cp) 5 ((bytesRow ⟨#[92, 34]⟩ cp).size, (bytesRow ⟨#[92, 34]⟩ cp).size + 1))).drew) 2 ((C.setIfInBounds 256 (.slice (some ⟨wr0.heap.size, 0, none⟩) 2 3)).setIfInBounds 34 (.slice (some ⟨w8.heap.size, 0, none⟩) 2 cp)) :=
            rep_step (c := 34) (e1 := 92) (e2 := 34) rfl rfl (by decide) (by omega) x8 hsz hown8 hrv8 l8
          have B9 : Below wr0.heap.size wr0 (((w8.setCell ⟨wr0.heap.size + 1, 34, none⟩ (.slice (some ⟨w8.heap.size, 0, none⟩) 2 cp)).alloc (.cells (bytesRow ⟨#[92, 34]⟩ cp) 5 ((bytesRow ⟨#[92, 34]⟩ cp).size, (bytesRow ⟨#[92, 34]⟩ cp).size + 1))).drew) := below_drewN (bnew (bput (by omega) B8)) 1
          clear hcp x8 hown8 hrv8 B8
          go_wp2_with fail
          go_roundw
          case rel => exact ⟨2, _, 0, by first | rfl | go_num, by decide, hR8, B9⟩
          case measure => simp [intOf]
        · obtain ⟨x5, hsz, h256, hown, hrv⟩ := hR
          obtain ⟨q5, f5, l5⟩ := x5.all
          have hcc : C[92]? = some (.slice none 0 0) := by have := hrv 92; rw [if_neg (by decide)] at this; exact this
          have p256 : wr.cell? ⟨wr0.heap.size + 1, 256, none⟩ = some (.slice (some ⟨wr0.heap.size, 0, none⟩) 2 3) := (q5 256).trans h256
          have pcc : wr.cell? ⟨wr0.heap.size + 1, 92, none⟩ = some (.slice none 0 0) := (q5 92).trans hcc
          clear q5
          have hby : ((⟨#[92]⟩ : ByteArray)[0]'(by decide)).toNat = 92 := rfl
          go_upto_region 33 with fail
          have hcv := run_convert_bytes_back (P := Try.prog) (wr.alloc (.cells #[.int .u8 92] 5)) 57 9 5 ⟨wr.heap.size, 0, none⟩ 1 [92] Try.underlying57 Try.underlying5 Try.underlying9 (fun j hj => by
            obtain rfl : j = 0 := by simpa using hj
            exact (Bx.new wr 5 #[.int .u8 92]).all.1 0)
          replace hcv : (convert 57 9 (.slice (some ⟨wr.heap.size, 0, none⟩) 1 1)).run Try.prog (wr.alloc (.cells #[.int .u8 92] 5)) = .ok (.string ⟨#[92]⟩) (wr.alloc (.cells #[.int .u8 92] 5)) := hcv
          have hown2 : ((wr.alloc (.cells #[.int .u8 92] 5)).alloc (.cells #[.string ⟨#[92]⟩] 9)).ownsRow wr0.heap.size 9 1 (.slice (some ⟨wr0.heap.size, 0, none⟩) 2 3) 2 _ := (own_al hown (by omega)).1
          have hxn := (Bx.new (wr.alloc (.cells #[.int .u8 92] 5)) 9 #[.string ⟨#[92]⟩]).all.1
          go_wp2_with (at_builtin; refine wpList_append_fits _ rfl (.tmp 119) (.tmp 123) 22 rfl wr0.heap.size 9 i0 1 Try.underlying22 hi hzz wr0.heap.size 2 3 _ rfl hown2 ⟨wr.heap.size + 1, 0, none⟩ 1 1 [.string ⟨#[92]⟩] rfl rfl ?a2 ?b2 (by omega) ?_)
          case a2 =>
            intro j u hu
            obtain rfl : j = 0 := by have := (List.getElem?_eq_some_iff.1 hu).1; simpa using this
            have h := (hxn 0).trans hu
            simpa [Addr.add] using h
          case b2 => intro u hu; simp at hu; subst hu; rfl
          intro w7 hown7 hg7
          have hb7 : ∀ k, k < wr.heap.size → k ≠ wr0.heap.size → w7.heap[k]? = wr.heap[k]? := fun k hk hne => by
            rw [hg7.block k (by simp; omega) (by simpa using hne)]
            exact heap2 hk
          have hs7 : wr.heap.size ≤ w7.heap.size := by have := hg7.size; simp at this; omega
          have B7 : Below wr0.heap.size wr0 w7 := (bnew (bnew B)).grown hg7 (by simp; omega) (fun k hk => by simp at hk; omega)
          clear hown2 hxn hcv hg7 p256 pcc
          have x7 : Bx w7 (wr0.heap.size + 1) 85 C := by unfold Bx; rw [hb7 _ l5 (by omega)]; exact x5
          have hrv7 : RvAll (wr0.heap.size + 2) w7 (doneL.take 2) C := rv_keep hrv (fun b hb hlt => hb7 b hlt (by omega))
          clear x5 f5 hrv B
          obtain ⟨q7, f7, l7⟩ := x7.all
          go_upto_region 34 with fail
          refine name_world ?_
          intro w8 hw8
          have x8 : Bx w8 (wr0.heap.size + 1) 85 (C.setIfInBounds 256 (.slice (some ⟨wr0.heap.size, 0, none⟩) 3 3)) := by rw [hw8]; exact x7.set 256 _
          have hown8 : w8.ownsRow wr0.heap.size 9 1 (.slice (some ⟨wr0.heap.size, 0, none⟩) 3 3) 3 ((doneL.take 3).map fun c => .string ⟨#[c]⟩) := by rw [hw8]; exact own_put hown7 (by omega)
          have hrv8 : RvAll (wr0.heap.size + 2) w8 (doneL.take 2) C := rv_keep hrv7 (fun b hb hlt => by rw [hw8]; exact Below.heap_setCell _ _ _ _ (by dsimp only; omega))
          have B8 : Below wr0.heap.size wr0 w8 := by rw [hw8]; exact bput (by omega) B7
          clear hw8 x7 hrv7 B7 q7 f7 hown7
          obtain ⟨q8, f8, l8⟩ := x8.all
          have p8 : w8.cell? ⟨wr0.heap.size + 1, 92, none⟩ = some (.slice none 0 0) := by rw [q8 92, Array.getElem?_setIfInBounds_ne (by decide)]; exact hcc
          clear q8
          have hsb := run_bytes_of_string (P := Try.prog) w8 9 57 5 ⟨#[92, 92]⟩ Try.underlying9 Try.underlying57 Try.underlying5
          obtain ⟨cp, hcp⟩ : ∃ cp, grownCap w8 (⟨#[92, 92]⟩ : ByteArray).size 0 5 = cp := ⟨_, rfl⟩
          rw [hcp] at hsb
          replace hsb : (convert 9 57 (.string ⟨#[92, 92]⟩)).run Try.prog w8 = .ok (.slice (some ⟨w8.heap.size, 0, none⟩) 2 cp) (w8.drew.alloc (.cells (bytesRow ⟨#[92, 92]⟩ cp) 5 ((bytesRow ⟨#[92, 92]⟩ cp).size, (bytesRow ⟨#[92, 92]⟩ cp).size + 1))) := hsb
          have hR8 : RepB wr0.heap.size wr0.heap.size (((w8.setCell ⟨wr0.heap.size + 1, 92, none⟩ (.slice (some ⟨w8.heap.size, 0, none⟩) 2 cp)).alloc (.cells (bytesRow ⟨#[92, 92]⟩ cp) 5 ((bytesRow ⟨#[92, 92]⟩ cp).size, (bytesRow ⟨#[92, 92]⟩ cp).size + 1))).drew) 3 ((C.setIfInBounds 256 (.slice (some ⟨wr0.heap.size, 0, none⟩) 3 3)).setIfInBounds 92 (.slice (some ⟨w8.heap.size, 0, none⟩) 2 cp)) :=
            rep_step (c := 92) (e1 := 92) (e2 := 92) rfl rfl (by decide) (by omega) x8 hsz hown8 hrv8 l8
          have B9 : Below wr0.heap.size wr0 (((w8.setCell ⟨wr0.heap.size + 1, 92, none⟩ (.slice (some ⟨w8.heap.size, 0, none⟩) 2 cp)).alloc (.cells (bytesRow ⟨#[92, 92]⟩ cp) 5 ((bytesRow ⟨#[92, 92]⟩ cp).size, (bytesRow ⟨#[92, 92]⟩ cp).size + 1))).drew) := below_drewN (bnew (bput (by omega) B8)) 1
          clear hcp x8 hown8 hrv8 B8
          go_wp2_with fail
          go_roundw
          case rel => exact ⟨3, _, -2, by first | rfl | go_num, by decide, hR8, B9⟩
          case measure => simp [intOf]
        · go_wp2_with fail
          go_ret
          exact ⟨wr0.heap.size, C, by omega, rfl, hR, B⟩
end Go.Proofs.Ytojieeenbbgpdaa
