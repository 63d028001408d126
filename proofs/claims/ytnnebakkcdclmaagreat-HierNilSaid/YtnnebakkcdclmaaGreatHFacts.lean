/-
  The closed facts of the row. Conditions: none.
-/
import Derived.Test.YtnnebakkcdclmaaGreatRows
import Derived.ProofKit
/- The closed facts of the row HierNil, limb by limb. -/
namespace Go.Proofs.YtnnebakkcdclmaaGreat.AM
open Go.Proofs Go.Proofs.YtnnebakkcdclmaaGreat Go.ChangeShapes Go.RowKit
set_option maxRecDepth 100000
set_option maxHeartbeats 40000000 in
theorem closed13 : joinedFacts Tryz.prog 13 Tryz.f13 Rows.hierNilSpec Rows.hierNilRow = true := by
  unfold joinedFacts
  simp only [Bool.and_eq_true]
  and_intros
  all_goals as_aux_lemma => kernel_rfl
theorem named13 : Tryz.prog.funcNamed Rows.hierNilRow.func = some 13 := by kernel_rfl
end Go.Proofs.YtnnebakkcdclmaaGreat.AM
