/-
  templetop.TopEmpty at (true, false), run by the kernel: it answers true.
-/
import Derived.Test.YtfphfbfjmpbohaaGreatSD
import Derived.KernelRfl
namespace Go.Proofs.YtfphfbfjmpbohaaGreat
open Go Go.D

theorem topEmpty_2 : K.call cfgT 300 5 [.bool true, .bool false] h0 isTrue false = true := by kernel_rfl
end Go.Proofs.YtfphfbfjmpbohaaGreat
