/-
  Rings, run by the kernel.
-/
import Derived.Test.YtibmnlijoeppaaaMRing
namespace Go.Proofs.Ytibmnlijoeppaaa
theorem ring_c13_0 : ringChks 13 0 14 = true := by kernel_rfl
theorem ring_c14_0 : ringChks 14 0 15 = true := by kernel_rfl
theorem ring_c15_0 : ringChks 15 0 16 = true := by kernel_rfl
theorem ring_c16_0 : ringChks 16 0 17 = true := by kernel_rfl
end Go.Proofs.Ytibmnlijoeppaaa
