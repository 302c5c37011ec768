/- dyeref1.Mix and dyeref1.Through. -/
import Derived.Test.YtoffnmpnhddaiaaBoth
import Derived.Test.YtoffnmpnhddaiaaMix
import Derived.Test.YtoffnmpnhddaiaaMat
namespace Go.Proofs.Ytoffnmpnhddaiaa
open Go.RowKit

set_option maxRecDepth 100000 in
set_option maxHeartbeats 1000000 in
theorem rmix_pairs (N t pt : Nat) (Tt : TypeId) (xs ys : List Nat) (W : World) (hpt : Bx W pt Tt #[.float .f32 t]) : Pairs W 102 #[.pointer (some ⟨pt, 0, none⟩)] N xs ys (mixV xs ys t) := by
  refine ⟨fun args u => ?_, fun k u hk hu => ?_⟩
  · exact call_enter Try.func102 (by kernel_rfl) (by kernel_rfl) _ _
  · have z0 := hpt.below hu hpt.lt
    clear hpt hu
    obtain ⟨q0, f0, l0⟩ := z0.all
    unfold mixV
    generalize xs.getD k 0 = a
    generalize ys.getD k 0 = b
    go_enter Try.func102, Try.ntmps102
    go_wp2_with fail
    refine (ref_LerpOf _ _ _ _).mono ?_
    rintro e w1 ⟨rfl, hb1⟩
    go_wp2_with fail
    go_ret
    exact ⟨rfl, bcall (bnew (Below.refl _ _)) hb1⟩

set_option maxRecDepth 100000 in
set_option maxHeartbeats 1000000 in
theorem rthr_pairs (x3 y3 w3 h3 : Int) (N M b3 o3 c3 pt : Nat) (xs ys ms : List Nat) (W : World) (hNM : N = 4 * M) (hM : M ≤ 65536) (hms : ms.length = M) (r3 : Rd W b3 o3 ms)
    (hpt : Bx W pt 62 #[.int .i64 x3, .int .i64 y3, .int .i64 w3, .int .i64 h3, .slice (some ⟨b3, o3, none⟩) M c3]) : Pairs W 108 #[.pointer (some ⟨pt, 0, none⟩)] N xs ys (thrV xs ys ms) := by
  refine ⟨fun args u => ?_, fun k u hk hu => ?_⟩
  · exact call_enter Try.func108 (by kernel_rfl) (by kernel_rfl) _ _
  · have z0 := hpt.below hu hpt.lt
    have s3 := r3.below hu r3.lt
    have hk4 : k / 4 < M := by omega
    have hc := s3.cell (k / 4) (by omega)
    have hl := s3.lt
    clear hpt hu r3 hms hNM s3
    obtain ⟨q0, f0, l0⟩ := z0.all
    unfold thrV
    generalize xs.getD k 0 = a
    generalize ys.getD k 0 = b
    generalize hkk : k / 4 = kk at *
    have hki : (kk : Int) < (M : Int) := by omega
    clear hkk
    go_enter Try.func108, Try.ntmps108
    go_wp2_with fail
    refine (ref_LerpOf _ _ _ _).mono ?_
    rintro e w1 ⟨rfl, hb1⟩
    go_wp2_with fail
    go_ret
    exact ⟨rfl, bcall (bnew (Below.refl _ _)) hb1⟩
end Go.Proofs.Ytoffnmpnhddaiaa
