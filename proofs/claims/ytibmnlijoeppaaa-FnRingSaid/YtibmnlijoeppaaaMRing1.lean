/-
  Rings, run by the kernel.
-/
import Derived.Test.YtibmnlijoeppaaaMRing
namespace Go.Proofs.Ytibmnlijoeppaaa
theorem ring_c1_0 : ringChks 1 0 2 = true := by kernel_rfl
theorem ring_c2_0 : ringChks 2 0 3 = true := by kernel_rfl
theorem ring_c3_0 : ringChks 3 0 4 = true := by kernel_rfl
theorem ring_c4_0 : ringChks 4 0 5 = true := by kernel_rfl
theorem ring_c5_0 : ringChks 5 0 6 = true := by kernel_rfl
theorem ring_c6_0 : ringChks 6 0 7 = true := by kernel_rfl
theorem ring_c7_0 : ringChks 7 0 8 = true := by kernel_rfl
theorem ring_c8_0 : ringChks 8 0 9 = true := by kernel_rfl
theorem ring_c9_0 : ringChks 9 0 10 = true := by kernel_rfl
theorem ring_c10_0 : ringChks 10 0 11 = true := by kernel_rfl
theorem ring_c11_0 : ringChks 11 0 12 = true := by kernel_rfl
theorem ring_c12_0 : ringChks 12 0 13 = true := by kernel_rfl
end Go.Proofs.Ytibmnlijoeppaaa
