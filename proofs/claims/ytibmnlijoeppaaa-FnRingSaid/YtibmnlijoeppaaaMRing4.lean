/-
  Rings, run by the kernel.
-/
import Derived.Test.YtibmnlijoeppaaaMRing
namespace Go.Proofs.Ytibmnlijoeppaaa
theorem ring_c19_0 : ringChks 19 0 10 = true := by kernel_rfl
theorem ring_c19_10 : ringChks 19 10 10 = true := by kernel_rfl
theorem ring_c20_0 : ringChks 20 0 11 = true := by kernel_rfl
theorem ring_c20_11 : ringChks 20 11 10 = true := by kernel_rfl
end Go.Proofs.Ytibmnlijoeppaaa
