/-
  templetop.TopEmpty at (false, true), run by the kernel: it answers true.
-/
import Derived.Test.YtfphfbfjmpbohaaGreatSD
import Derived.KernelRfl
namespace Go.Proofs.YtfphfbfjmpbohaaGreat
open Go Go.D

theorem topEmpty_1 : K.call cfgT 300 5 [.bool false, .bool true] h0 isTrue false = true := by kernel_rfl
end Go.Proofs.YtfphfbfjmpbohaaGreat
