/-
  The table of orders is right, second part. Conditions: none.
-/
import Derived.Test.YtnnebakkcdclmaaGreatProg
import Derived.Test.YtnnebakkcdclmaaGreatHTab
namespace Go.Proofs.YtnnebakkcdclmaaGreat.AM
open Go.Proofs
set_option maxRecDepth 1000000
theorem hok1 : okFrom Tryz.prog htab 116 116 = true := by kernel_rfl
end Go.Proofs.YtnnebakkcdclmaaGreat.AM
