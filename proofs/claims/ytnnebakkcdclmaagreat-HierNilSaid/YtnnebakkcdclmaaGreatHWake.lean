/-
  The example that the statements of this layer ask for holds. Conditions: none.
-/
import Derived.Test.YtnnebakkcdclmaaGreatHOk0
import Derived.Test.YtnnebakkcdclmaaGreatHOk1
import Derived.Test.YtnnebakkcdclmaaGreatHOk2
/- The example that all statements of this layer ask for, run. -/
namespace Go.Proofs.YtnnebakkcdclmaaGreat.AM
open Go.Proofs
set_option maxRecDepth 1000000
theorem htab_ok (f : Nat) : okAt Tryz.prog htab f = true := by
  by_cases h0 : f < 116
  · exact okFrom_at hok0 (by omega) (by omega)
  · by_cases h1 : f < 232
    · exact okFrom_at hok1 (by omega) (by omega)
    · by_cases h2 : f < 348
      · exact okFrom_at hok2 (by omega) (by omega)
      · exact okAt_big (Nat.le_trans (Nat.le_of_ble_eq_true (show Nat.ble htab.length 348 = true by kernel_rfl)) (by omega))

theorem ev14 : (match tF Tryz.prog 1000 htab 59 14 [] ⟨.nil, 2⟩ with | some (.B true, h) => Nat.beq h.next 1565 | _ => false) = true := by kernel_rfl

end Go.Proofs.YtnnebakkcdclmaaGreat.AM
