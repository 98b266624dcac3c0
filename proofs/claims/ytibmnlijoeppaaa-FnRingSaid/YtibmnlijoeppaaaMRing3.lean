/-
  Rings, run by the kernel.
-/
import Derived.Test.YtibmnlijoeppaaaMRing
namespace Go.Proofs.Ytibmnlijoeppaaa
theorem ring_c17_0 : ringChks 17 0 9 = true := by kernel_rfl
theorem ring_c17_9 : ringChks 17 9 9 = true := by kernel_rfl
theorem ring_c18_0 : ringChks 18 0 10 = true := by kernel_rfl
theorem ring_c18_10 : ringChks 18 10 9 = true := by kernel_rfl
end Go.Proofs.Ytibmnlijoeppaaa
