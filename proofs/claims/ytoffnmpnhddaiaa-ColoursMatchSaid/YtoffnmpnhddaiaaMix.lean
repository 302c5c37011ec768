/- frame.Mix, frame.Through. -/
import Derived.Test.YtoffnmpnhddaiaaEch
import Derived.Test.YtoffnmpnhddaiaaLerp
import Derived.Test.YtoffnmpnhddaiaaReg
import Derived.Test.YtoffnmpnhddaiaaRel
namespace Go.Proofs.Ytoffnmpnhddaiaa
open Go.RowKit

def mixV (xs ys : List Nat) (t k : Nat) : Nat := lerpV (xs.getD k 0) (ys.getD k 0) t
def thrV (xs ys ms : List Nat) (k : Nat) : Nat := lerpV (xs.getD k 0) (ys.getD k 0) (ms.getD (k / 4) 0)

set_option maxRecDepth 100000 in
set_option maxHeartbeats 1000000 in
theorem mix_gives (x y w h x2 y2 w2 h2 : Int) (b1 o1 c1 b2 o2 c2 N t pa pb pt : Nat) (Tt : TypeId) (xs ys : List Nat) (W : World) (hN : N ≤ 262144) (hxs : xs.length = N) (hys : ys.length = N) (r1 : Rd W b1 o1 xs) (r2 : Rd W b2 o2 ys)
    (hpa : Bx W pa 26 #[.int .i64 x, .int .i64 y, .int .i64 w, .int .i64 h, .slice (some ⟨b1, o1, none⟩) N c1]) (hpb : Bx W pb 26 #[.int .i64 x2, .int .i64 y2, .int .i64 w2, .int .i64 h2, .slice (some ⟨b2, o2, none⟩) N c2]) (hpt : Bx W pt Tt #[.float .f32 t]) :
    Gives W 99 #[.pointer (some ⟨pa, 0, none⟩), .pointer (some ⟨pb, 0, none⟩), .pointer (some ⟨pt, 0, none⟩)] N (mixV xs ys t) := by
  refine ⟨fun args u => ?_, fun k u hk hu => ?_⟩
  · exact call_enter Try.func99 (by kernel_rfl) (by kernel_rfl) _ _
  · have z0 := hpa.below hu hpa.lt
    have z1 := hpb.below hu hpb.lt
    have z2 := hpt.below hu hpt.lt
    have s1 := r1.below hu r1.lt
    have s2 := r2.below hu r2.lt
    have Hl := Lib.hid (And.intro hxs hys)
    clear hpa hpb hpt r1 r2 hu hxs hys
    obtain ⟨q0, f0, l0⟩ := z0.all
    obtain ⟨q1, f1, l1⟩ := z1.all
    obtain ⟨q2, f2, l2⟩ := z2.all
    have hc1 := s1.cell k (by rw [Hl.out.1]; exact hk)
    have hc2 := s2.cell k (by rw [Hl.out.2]; exact hk)
    have m1 := s1.lt
    have m2 := s2.lt
    have hki : (k : Int) < (N : Int) := by omega
    have hk0 : (0 : Int) ≤ (k : Int) := by omega
    go_enter Try.func99, Try.ntmps99
    go_wp2_with fail
    refine wp_region_all (fun z : BW u.heap.size u => z.w) (by kernel_rfl) (by kernel_rfl) (BW.start _ _) rfl ?_
    repeat (go_big_quiet_step (first
      | (go_at_call 100; exact BW.call (Nat.le_refl _) _ (num_Lerp _ _ _ _))))
    refine wpQuiet_nil ?_
    intro z
    go_wp2_with fail
    go_ret
    exact ⟨rfl, z.below⟩

set_option maxRecDepth 100000 in
set_option maxHeartbeats 1000000 in
theorem thr_gives (x y w h x2 y2 w2 h2 x3 y3 w3 h3 : Int) (b1 o1 c1 b2 o2 c2 b3 o3 c3 M N pa pb pt : Nat) (xs ys ms : List Nat) (W : World) (hN : N ≤ 262144) (hNM : N = 4 * M) (hxs : xs.length = N) (hys : ys.length = N) (hms : ms.length = M) (r1 : Rd W b1 o1 xs) (r2 : Rd W b2 o2 ys) (r3 : Rd W b3 o3 ms)
    (hpa : Bx W pa 26 #[.int .i64 x, .int .i64 y, .int .i64 w, .int .i64 h, .slice (some ⟨b1, o1, none⟩) N c1]) (hpb : Bx W pb 26 #[.int .i64 x2, .int .i64 y2, .int .i64 w2, .int .i64 h2, .slice (some ⟨b2, o2, none⟩) N c2])
    (hpt : Bx W pt 62 #[.int .i64 x3, .int .i64 y3, .int .i64 w3, .int .i64 h3, .slice (some ⟨b3, o3, none⟩) M c3]) :
    Gives W 105 #[.pointer (some ⟨pa, 0, none⟩), .pointer (some ⟨pb, 0, none⟩), .pointer (some ⟨pt, 0, none⟩)] N (thrV xs ys ms) := by
  refine ⟨fun args u => ?_, fun k u hk hu => ?_⟩
  · exact call_enter Try.func105 (by kernel_rfl) (by kernel_rfl) _ _
  · have z0 := hpa.below hu hpa.lt
    have z1 := hpb.below hu hpb.lt
    have z2 := hpt.below hu hpt.lt
    have s1 := r1.below hu r1.lt
    have s2 := r2.below hu r2.lt
    have s3 := r3.below hu r3.lt
    have Hl := Lib.hid (And.intro hxs (And.intro hys (And.intro hms hNM)))
    clear hpa hpb hpt r1 r2 r3 hu hxs hys hms hNM
    obtain ⟨q0, f0, l0⟩ := z0.all
    obtain ⟨q1, f1, l1⟩ := z1.all
    obtain ⟨q2, f2, l2⟩ := z2.all
    have hk4 : k / 4 < M := by have := Hl.out.2.2.2; omega
    have hc1 := s1.cell k (by rw [Hl.out.1]; exact hk)
    have hc2 := s2.cell k (by rw [Hl.out.2.1]; exact hk)
    have hc3 := s3.cell (k / 4) (by rw [Hl.out.2.2.1]; exact hk4)
    have m1 := s1.lt
    have m2 := s2.lt
    have m3 := s3.lt
    have hki : (k : Int) < (N : Int) := by omega
    have hki4 : (k : Int) / 4 < (M : Int) := by omega
    have hk0 : (0 : Int) ≤ (k : Int) := by omega
    have hk40 : (0 : Int) ≤ (k : Int) / 4 := by omega
    go_enter Try.func105, Try.ntmps105
    go_wp2_with fail
    refine wp_region_all (fun z : BW u.heap.size u => z.w) (by kernel_rfl) (by kernel_rfl) (BW.start _ _) rfl ?_
    repeat (go_big_quiet_step (first
      | (go_at_call 100; exact BW.call (Nat.le_refl _) _ (num_Lerp _ _ _ _))))
    refine wpQuiet_nil ?_
    intro z
    go_wp2_with fail
    go_ret
    exact ⟨rfl, z.below⟩
end Go.Proofs.Ytoffnmpnhddaiaa
