/-
  The table of orders is right, first part. Conditions: none.
-/
import Derived.Test.YtnnebakkcdclmaaGreatProg
import Derived.Test.YtnnebakkcdclmaaGreatHTab
namespace Go.Proofs.YtnnebakkcdclmaaGreat.AM
open Go.Proofs
set_option maxRecDepth 1000000
theorem hok0 : okFrom Tryz.prog htab 116 0 = true := by kernel_rfl
end Go.Proofs.YtnnebakkcdclmaaGreat.AM
