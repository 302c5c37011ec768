/- conform.Slip and conform.Trim. -/
import Derived.Test.YtemlabmmafcapaaGreatDoorTrd
namespace Go.Proofs.YtemlabmmafcapaaGreatDoor
open Go.RowKit

def clampB (lim b : Int) : Int := imin (imax b (-lim)) lim
theorem clampB_in (lim b : Int) (h : 0 ≤ lim) : -lim ≤ clampB lim b ∧ clampB lim b ≤ lim := by
  unfold clampB imin imax; split <;> split <;> omega
theorem clampB_id (lim b : Int) (h1 : -lim ≤ b) (h2 : b ≤ lim) : clampB lim b = b := by
  unfold clampB imin imax; split <;> split <;> omega
def trimE (es : List Ev) (j : Nat) (q : Int) : List Ev := trimL es j q (es.length - j - 1)

theorem slip_moves (t : ByteArray) (r q : Int) (es : List Ev) (pb : Nat) (T0 : TypeId) (j : Nat) (w : World) (h0 : editsErr t r es = 0) (hj : j < es.length) (b1 : -1073741824 ≤ q) (b2 : q ≤ 1073741824) (hp : Bx w pb T0 #[.int .i64 q]) :
    Moves w 27 #[.pointer (some ⟨pb, 0, none⟩)] j es (slipL es j q) := by
  refine ⟨by rw [slipL, List.length_set], fun g c T cs u hb hg hH hx hc => ?_⟩
  obtain ⟨a, b, d, _, _⟩ := edits_in h0 j hj
  refine (conform_Slip1x g (j * 6) (es.length - j) (c - j) pb T cs q (es.getD j default).inn (es.getD j default).out u (by omega) hx ?_ (hH j 3 hj (by omega)) (hH j 4 hj (by omega)) a (by omega) (by omega) d b1 b2).mono ?_
  · obtain ⟨z, _, _⟩ := (hp.keep hb).all
    exact z 0
  · rintro e u' ⟨rfl, hx', hb'⟩
    exact ⟨rfl, ⟨_, hx', hH.slip j hj _ _⟩, hb'⟩
set_option maxRecDepth 100000 in
set_option maxHeartbeats 4000000 in
theorem conform_Slip (t : ByteArray) (r event by_ : Int) (v : Value) (es es' : List Ev) (W : World) (hs : SlE W v es) (he : slipL es event.toNat (clampB 1073741824 by_) = es') :
    Calls Tryz.prog 8 #[.agg #[.string t, .int .i64 r, v], .int .i64 event, .int .i64 by_] W fun e w' => Turned W t r (turnErr t r es event es') es' e w' := by
  have Hs := Lib.hid hs
  obtain ⟨a, c, rfl, hmax, -⟩ := hs
  obtain ⟨n, hn⟩ : ∃ n, n = es.length := ⟨_, rfl⟩
  rw [← hn] at hmax Hs ⊢
  obtain ⟨k1, k2⟩ := clampB_in 1073741824 by_ (by omega)
  have hcf : ∀ (args : Array Value) (u : World), (callFunc 27 args).run Tryz.prog u = .ok (.enter 27 args) u := fun _ _ => call_enter Tryz.func27 (by kernel_rfl) (by kernel_rfl) _ _
  have He := Lib.hid he
  clear hn he
  go_enter Tryz.func8, Tryz.ntmps8
  go_upto_region 1 with fail
  refine name_world ?_
  intro w0 hw0
  have x3 : Bx w0 W.heap.size 24 #[.string t, .int .i64 r, .slice a n c] := by rw [hw0]; exact Bx.alloc (Bx.alloc (Bx.new _ _ _) _) _
  obtain ⟨T0, x5⟩ : ∃ T, Bx w0 (W.heap.size + 1) T #[.int .i64 by_] := by rw [hw0]; exact ⟨_, Bx.alloc (Bx.at _ (by simp)) _⟩
  have x6 : Bx w0 (W.heap.size + 1 + 1) 24 #[.string ⟨#[]⟩, .int .i64 0, .slice none 0 0] := by rw [hw0]; exact Bx.at _ (by simp)
  have B : Below W.heap.size W w0 := by rw [hw0]; exact bnew (bnew (bnew (Below.refl _ W)))
  clear hw0
  obtain ⟨q3, f3, l3⟩ := x3.all
  obtain ⟨q5, f5, l5⟩ := x5.all
  obtain ⟨q6, f6, l6⟩ := x6.all
  go_wp2_with fail
  refine (conform_far by_ _).mono ?_
  rintro e w1 ⟨rfl, rfl⟩
  rw [show imin (imax by_ (-1073741824)) 1073741824 = clampB 1073741824 by_ from rfl]
  generalize clampB 1073741824 by_ = q at k1 k2 He ⊢
  go_upto_region 2 with fail
  refine name_world ?_
  intro wb hwb
  replace x3 : Bx wb W.heap.size 24 #[.string t, .int .i64 r, .slice a n c] := by rw [hwb]; exact Bx.other x3 _ _ (by simp)
  replace x5 : Bx wb (W.heap.size + 1) T0 #[.int .i64 q] := by rw [hwb]; exact Bx.set x5 0 _
  replace x6 : Bx wb (W.heap.size + 1 + 1) 24 #[.string ⟨#[]⟩, .int .i64 0, .slice none 0 0] := by rw [hwb]; exact Bx.other x6 _ _ (by simp)
  replace B : Below W.heap.size W wb := by rw [hwb]; exact bput (by omega) B
  clear hwb q3 f3 l3 q5 f5 l5 q6 f6 l6
  obtain ⟨q3, f3, l3⟩ := x3.all
  obtain ⟨q5, f5, l5⟩ := x5.all
  obtain ⟨q6, f6, l6⟩ := x6.all
  go_wp2_with fail
  refine (conform_changed t r event _ es es' 27 _ wb (Hs.out.keep B) hcf fun j h0 hj hlt => ?_).mono ?_
  · rw [← He.out, hj, Int.toNat_natCast]
    exact slip_moves t r q es _ T0 j wb h0 hlt k1 k2 x5
  rintro e w2 ⟨v', rfl, hsl, ho, hb2⟩
  replace x6 := x6.keep hb2
  replace B := bcall B hb2
  replace ho := ho.mono (show W.heap.size + 1 + 1 + 1 ≤ wb.heap.size by omega)
  clear q3 f3 l3 q5 f5 l5 q6 f6 l6 x3 x5 hb2
  obtain ⟨q6, f6, l6⟩ := x6.all
  have Hsl := Lib.hid hsl
  obtain ⟨a', c', rfl, -, -⟩ := hsl
  generalize hno : (outE (turnErr t r es event es') es').length = no at Hsl ho ⊢
  have Hno := Lib.hid hno
  clear hno
  generalize hot : outT (turnErr t r es event es') t = ot
  have Hot := Lib.hid hot
  generalize hor : outR (turnErr t r es event es') r = or_
  have Hor := Lib.hid hor
  clear hot hor
  go_wp2_with fail
  refine bodyPost_ret (v := .tuple #[.agg #[.string ot, .int .i64 or_, .slice a' no c'], .int .i64 (turnErr t r es event es')]) (by simp [results, Tryz.results8, go_sem, q6]) rfl ⟨.slice a' no c', ?_, ?_, ho.mono (by omega), ?_⟩
  · rw [Hot.out, Hor.out]
  · exact SlE.put (SlE.put (SlE.put Hsl.out ho (by omega)) ho (by omega)) ho (by omega)
  · exact bput (by omega) (bput (by omega) (bput (by omega) B))

end Go.Proofs.YtemlabmmafcapaaGreatDoor
