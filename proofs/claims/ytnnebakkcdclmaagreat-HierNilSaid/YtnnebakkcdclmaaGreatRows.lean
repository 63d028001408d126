/-
  No cell of these rows narrows 'for every input' (looked for: loops, veiled, ifaces, maps, wideKeys, modest, calm, conditions, laid).
  DERIVED. THE GIVEN ROWS OF THIS SEAT. 11 by the template 'for every input the law returns true; each argument reads behind the call as it read before'; 0 by the template 'total and deterministic' (their statements: YtnnebakkcdclmaaGreatTotals.lean).
  GIVEN WITH THE SEED: the statements are not yours to turn. If you find one false, say at which input.
  Laid BY PROGRAM, IN A SANDBOX (cutbox-rows.mjs): the forced cells as the released guide's own fill.sh prints them over the translation 7a34e178c925716c… (all of the seat's roots in one cut). By AI agents, Wed Nov 11 2026. No macro, syntax, notation, axiom, sorry.
-/
import Derived.Test.YtnnebakkcdclmaaGreatChecked
import GoSem.Claim
import GoSem.ClaimJoined
import GoSem.ClaimMapViews
import Derived.JoinedTies
import Derived.KernelRfl
namespace Go.Proofs.YtnnebakkcdclmaaGreat
/- THE CELL 'sum', in the pinned program and in every row, IS THE sha256 OF THE DUMP (.gsa) THAT YtnnebakkcdclmaaGreatProg.lean LOADS. Nothing in Lean hashes anything: it is a label: what it is worth is what the hold of that sum in a sandbox is worth. -/
noncomputable def Tryz.pinned : Pinned := { name := "ytnnebakkcdclmaagreat", sum := "7a34e178c925716cc1c36fb0a8a2301fceb2329c2e3bc5a9717dcce638ecf130", checked := Tryz.checked }
namespace Rows
def none {H : Type} : Left H := { results := [], args := [] }

/-- 'gradinelaw21.HierErrors': WHATEVER THE INPUT: true; the input reads as it did. -/
def hierErrorsSpec : ChangeSpec := { name := "hierErrors", fn := fun _ => fun
  | [d1, d2, d3] => { results := [.lit (.bool true)], args := [d1, d2, d3] }
  | _ => none }
def hierErrorsRow : OpenClaim := { program := "ytnnebakkcdclmaagreat", sum := "7a34e178c925716cc1c36fb0a8a2301fceb2329c2e3bc5a9717dcce638ecf130", func := "gradine/gradinelaw21.HierErrors", spec := "hierErrors", unfollowed := true, recurses := true, plainKeys := false, apart := false }
def HierErrorsSaid : Prop := hierErrorsRow.holds Tryz.pinned (OpenSpec.ofChange hierErrorsSpec)

/-- ITS FALSE NEIGHBOUR: 'it returns false'. Refute it at one input. -/
def hierErrorsWrong : ChangeSpec := { name := "hierErrors", fn := fun _ => fun
  | [d1, d2, d3] => { results := [.lit (.bool false)], args := [d1, d2, d3] }
  | _ => none }
def HierErrorsWrongFalsely : Prop := hierErrorsRow.holds Tryz.pinned (OpenSpec.ofChange hierErrorsWrong)

/-- 'gradinelaw21.HierBuffer': WHATEVER THE INPUT: true; the input reads as it did. -/
def hierBufferSpec : ChangeSpec := { name := "hierBuffer", fn := fun _ => fun
  | [d1, d2] => { results := [.lit (.bool true)], args := [d1, d2] }
  | _ => none }
def hierBufferRow : OpenClaim := { program := "ytnnebakkcdclmaagreat", sum := "7a34e178c925716cc1c36fb0a8a2301fceb2329c2e3bc5a9717dcce638ecf130", func := "gradine/gradinelaw21.HierBuffer", spec := "hierBuffer", unfollowed := true, recurses := true, plainKeys := false, apart := false }
def HierBufferSaid : Prop := hierBufferRow.holds Tryz.pinned (OpenSpec.ofChange hierBufferSpec)

/-- ITS FALSE NEIGHBOUR: 'it returns false'. Refute it at one input. -/
def hierBufferWrong : ChangeSpec := { name := "hierBuffer", fn := fun _ => fun
  | [d1, d2] => { results := [.lit (.bool false)], args := [d1, d2] }
  | _ => none }
def HierBufferWrongFalsely : Prop := hierBufferRow.holds Tryz.pinned (OpenSpec.ofChange hierBufferWrong)

/-- 'gradinelaw21.HierOne': WHATEVER THE INPUT: true; the input reads as it did. -/
def hierOneSpec : ChangeSpec := { name := "hierOne", fn := fun _ => fun
  | [d1, d2] => { results := [.lit (.bool true)], args := [d1, d2] }
  | _ => none }
def hierOneRow : OpenClaim := { program := "ytnnebakkcdclmaagreat", sum := "7a34e178c925716cc1c36fb0a8a2301fceb2329c2e3bc5a9717dcce638ecf130", func := "gradine/gradinelaw21.HierOne", spec := "hierOne", unfollowed := true, recurses := true, plainKeys := false, apart := false }
def HierOneSaid : Prop := hierOneRow.holds Tryz.pinned (OpenSpec.ofChange hierOneSpec)

/-- ITS FALSE NEIGHBOUR: 'it returns false'. Refute it at one input. -/
def hierOneWrong : ChangeSpec := { name := "hierOne", fn := fun _ => fun
  | [d1, d2] => { results := [.lit (.bool false)], args := [d1, d2] }
  | _ => none }
def HierOneWrongFalsely : Prop := hierOneRow.holds Tryz.pinned (OpenSpec.ofChange hierOneWrong)

/-- 'gradinelaw21.HierTicks': WHATEVER THE INPUT: true; the input reads as it did. -/
def hierTicksSpec : ChangeSpec := { name := "hierTicks", fn := fun _ => fun
  | [d] => { results := [.lit (.bool true)], args := [d] }
  | _ => none }
def hierTicksRow : OpenClaim := { program := "ytnnebakkcdclmaagreat", sum := "7a34e178c925716cc1c36fb0a8a2301fceb2329c2e3bc5a9717dcce638ecf130", func := "gradine/gradinelaw21.HierTicks", spec := "hierTicks", unfollowed := true, recurses := true, plainKeys := false, apart := false }
def HierTicksSaid : Prop := hierTicksRow.holds Tryz.pinned (OpenSpec.ofChange hierTicksSpec)

/-- ITS FALSE NEIGHBOUR: 'it returns false'. Refute it at one input. -/
def hierTicksWrong : ChangeSpec := { name := "hierTicks", fn := fun _ => fun
  | [d] => { results := [.lit (.bool false)], args := [d] }
  | _ => none }
def HierTicksWrongFalsely : Prop := hierTicksRow.holds Tryz.pinned (OpenSpec.ofChange hierTicksWrong)

/-- 'gradinelaw22.DrainTill': WHATEVER THE INPUT: true; the input reads as it did. -/
def drainTillSpec : ChangeSpec := { name := "drainTill", fn := fun _ => fun
  | [d1, d2] => { results := [.lit (.bool true)], args := [d1, d2] }
  | _ => none }
def drainTillRow : OpenClaim := { program := "ytnnebakkcdclmaagreat", sum := "7a34e178c925716cc1c36fb0a8a2301fceb2329c2e3bc5a9717dcce638ecf130", func := "gradine/gradinelaw22.DrainTill", spec := "drainTill", unfollowed := true, recurses := true, plainKeys := false, apart := false }
def DrainTillSaid : Prop := drainTillRow.holds Tryz.pinned (OpenSpec.ofChange drainTillSpec)

/-- ITS FALSE NEIGHBOUR: 'it returns false'. Refute it at one input. -/
def drainTillWrong : ChangeSpec := { name := "drainTill", fn := fun _ => fun
  | [d1, d2] => { results := [.lit (.bool false)], args := [d1, d2] }
  | _ => none }
def DrainTillWrongFalsely : Prop := drainTillRow.holds Tryz.pinned (OpenSpec.ofChange drainTillWrong)

/-- 'gradinelaw22.DrainBound': WHATEVER THE INPUT: true; the input reads as it did. -/
def drainBoundSpec : ChangeSpec := { name := "drainBound", fn := fun _ => fun
  | [d1, d2] => { results := [.lit (.bool true)], args := [d1, d2] }
  | _ => none }
def drainBoundRow : OpenClaim := { program := "ytnnebakkcdclmaagreat", sum := "7a34e178c925716cc1c36fb0a8a2301fceb2329c2e3bc5a9717dcce638ecf130", func := "gradine/gradinelaw22.DrainBound", spec := "drainBound", unfollowed := true, recurses := true, plainKeys := false, apart := false }
def DrainBoundSaid : Prop := drainBoundRow.holds Tryz.pinned (OpenSpec.ofChange drainBoundSpec)

/-- ITS FALSE NEIGHBOUR: 'it returns false'. Refute it at one input. -/
def drainBoundWrong : ChangeSpec := { name := "drainBound", fn := fun _ => fun
  | [d1, d2] => { results := [.lit (.bool false)], args := [d1, d2] }
  | _ => none }
def DrainBoundWrongFalsely : Prop := drainBoundRow.holds Tryz.pinned (OpenSpec.ofChange drainBoundWrong)

/-- 'gradinelaw21.HierHints': WHATEVER THE INPUT: true; the input reads as it did. -/
def hierHintsSpec : ChangeSpec := { name := "hierHints", fn := fun _ => fun
  | [d1, d2, d3] => { results := [.lit (.bool true)], args := [d1, d2, d3] }
  | _ => none }
def hierHintsRow : OpenClaim := { program := "ytnnebakkcdclmaagreat", sum := "7a34e178c925716cc1c36fb0a8a2301fceb2329c2e3bc5a9717dcce638ecf130", func := "gradine/gradinelaw21.HierHints", spec := "hierHints", unfollowed := true, recurses := true, plainKeys := false, apart := false }
def HierHintsSaid : Prop := hierHintsRow.holds Tryz.pinned (OpenSpec.ofChange hierHintsSpec)

/-- ITS FALSE NEIGHBOUR: 'it returns false'. Refute it at one input. -/
def hierHintsWrong : ChangeSpec := { name := "hierHints", fn := fun _ => fun
  | [d1, d2, d3] => { results := [.lit (.bool false)], args := [d1, d2, d3] }
  | _ => none }
def HierHintsWrongFalsely : Prop := hierHintsRow.holds Tryz.pinned (OpenSpec.ofChange hierHintsWrong)

/-- 'gradinelaw21.HierCuts': WHATEVER THE INPUT: true; the input reads as it did. -/
def hierCutsSpec : ChangeSpec := { name := "hierCuts", fn := fun _ => fun
  | [d1, d2, d3] => { results := [.lit (.bool true)], args := [d1, d2, d3] }
  | _ => none }
def hierCutsRow : OpenClaim := { program := "ytnnebakkcdclmaagreat", sum := "7a34e178c925716cc1c36fb0a8a2301fceb2329c2e3bc5a9717dcce638ecf130", func := "gradine/gradinelaw21.HierCuts", spec := "hierCuts", unfollowed := true, recurses := true, plainKeys := false, apart := false }
def HierCutsSaid : Prop := hierCutsRow.holds Tryz.pinned (OpenSpec.ofChange hierCutsSpec)

/-- ITS FALSE NEIGHBOUR: 'it returns false'. Refute it at one input. -/
def hierCutsWrong : ChangeSpec := { name := "hierCuts", fn := fun _ => fun
  | [d1, d2, d3] => { results := [.lit (.bool false)], args := [d1, d2, d3] }
  | _ => none }
def HierCutsWrongFalsely : Prop := hierCutsRow.holds Tryz.pinned (OpenSpec.ofChange hierCutsWrong)

/-- 'gradinelaw21.HierBounds': WHATEVER THE INPUT: true; the input reads as it did. -/
def hierBoundsSpec : ChangeSpec := { name := "hierBounds", fn := fun _ => fun
  | [d1, d2] => { results := [.lit (.bool true)], args := [d1, d2] }
  | _ => none }
def hierBoundsRow : OpenClaim := { program := "ytnnebakkcdclmaagreat", sum := "7a34e178c925716cc1c36fb0a8a2301fceb2329c2e3bc5a9717dcce638ecf130", func := "gradine/gradinelaw21.HierBounds", spec := "hierBounds", unfollowed := true, recurses := true, plainKeys := false, apart := false }
def HierBoundsSaid : Prop := hierBoundsRow.holds Tryz.pinned (OpenSpec.ofChange hierBoundsSpec)

/-- ITS FALSE NEIGHBOUR: 'it returns false'. Refute it at one input. -/
def hierBoundsWrong : ChangeSpec := { name := "hierBounds", fn := fun _ => fun
  | [d1, d2] => { results := [.lit (.bool false)], args := [d1, d2] }
  | _ => none }
def HierBoundsWrongFalsely : Prop := hierBoundsRow.holds Tryz.pinned (OpenSpec.ofChange hierBoundsWrong)

/-- 'gradinelaw21.HierSame': WHATEVER THE INPUT: true; the input reads as it did. -/
def hierSameSpec : ChangeSpec := { name := "hierSame", fn := fun _ => fun
  | [d1, d2] => { results := [.lit (.bool true)], args := [d1, d2] }
  | _ => none }
def hierSameRow : OpenClaim := { program := "ytnnebakkcdclmaagreat", sum := "7a34e178c925716cc1c36fb0a8a2301fceb2329c2e3bc5a9717dcce638ecf130", func := "gradine/gradinelaw21.HierSame", spec := "hierSame", unfollowed := true, recurses := true, plainKeys := false, apart := false }
def HierSameSaid : Prop := hierSameRow.holds Tryz.pinned (OpenSpec.ofChange hierSameSpec)

/-- ITS FALSE NEIGHBOUR: 'it returns false'. Refute it at one input. -/
def hierSameWrong : ChangeSpec := { name := "hierSame", fn := fun _ => fun
  | [d1, d2] => { results := [.lit (.bool false)], args := [d1, d2] }
  | _ => none }
def HierSameWrongFalsely : Prop := hierSameRow.holds Tryz.pinned (OpenSpec.ofChange hierSameWrong)

/-- 'gradinelaw21.HierNil': WHATEVER THE INPUT: true; the input reads as it did. -/
def hierNilSpec : ChangeSpec := { name := "hierNil", fn := fun _ => fun
  | [d] => { results := [.lit (.bool true)], args := [d] }
  | _ => none }
def hierNilRow : OpenClaim := { program := "ytnnebakkcdclmaagreat", sum := "7a34e178c925716cc1c36fb0a8a2301fceb2329c2e3bc5a9717dcce638ecf130", func := "gradine/gradinelaw21.HierNil", spec := "hierNil", unfollowed := true, recurses := true, plainKeys := false, apart := false }
def HierNilSaid : Prop := hierNilRow.holds Tryz.pinned (OpenSpec.ofChange hierNilSpec)

/-- ITS FALSE NEIGHBOUR: 'it returns false'. Refute it at one input. -/
def hierNilWrong : ChangeSpec := { name := "hierNil", fn := fun _ => fun
  | [d] => { results := [.lit (.bool false)], args := [d] }
  | _ => none }
def HierNilWrongFalsely : Prop := hierNilRow.holds Tryz.pinned (OpenSpec.ofChange hierNilWrong)

/- THE SECOND FORM. 'bulk': how many values and letters a reading holds, each counted each time it is reached (what is shared counts as often as it is met; a slice's spare places count too). A statement '..UptoSaid' is the law's where the arguments, and the package variables that the reading takes, are together of bulk at most 1048576: NARROWER than '..Said'. Prove '..Said' where nothing that the law and all that it calls make is longer than what came in: it says more and counts as full. Else prove '..UptoSaid'. A law counts once. -/
mutual
def uptoBulk {H : Type} : DataW H → Nat
  | .lit (.string bytes) => bytes.length + 1
  | .lit _ => 1
  | .nil => 1
  | .ptr d => uptoBulk d + 1
  | .slice elems spare => uptoBulkAll elems + uptoBulkAll spare + 1
  | .agg parts => uptoBulkAll parts + 1
  | .iface _ d => uptoBulk d + 1
  | .map entries => uptoBulkEntries entries + 1
  | .held _ => 1
def uptoBulkAll {H : Type} : List (DataW H) → Nat
  | [] => 0
  | d :: r => uptoBulk d + uptoBulkAll r
def uptoBulkEntries {H : Type} : List (Lit × DataW H) → Nat
  | [] => 0
  | x :: r => uptoBulkEntry x + uptoBulkEntries r
def uptoBulkEntry {H : Type} : Lit × DataW H → Nat
  | (.string bytes, d) => bytes.length + uptoBulk d + 1
  | (_, d) => uptoBulk d + 1
 end
def uptoSmall : (H : Type) → List (DataW H) → Bool := fun _ ds => decide (uptoBulkAll ds ≤ 1048576)
def OpenSpec.upto (s : _root_.Go.ChangeSpec) : _root_.Go.OpenSpec := { _root_.Go.OpenSpec.ofChange s with cond := some uptoSmall }

/-- 'gradinelaw21.HierErrors', WHERE WHAT IT READS IS OF BULK AT MOST 1048576: true; the input reads as it did. -/
def hierErrorsUptoRow : OpenClaim := { program := "ytnnebakkcdclmaagreat", sum := "7a34e178c925716cc1c36fb0a8a2301fceb2329c2e3bc5a9717dcce638ecf130", func := "gradine/gradinelaw21.HierErrors", spec := "hierErrors", unfollowed := true, recurses := true, plainKeys := false, apart := false, narrowed := true }
def HierErrorsUptoSaid : Prop := hierErrorsUptoRow.holds Tryz.pinned (OpenSpec.upto hierErrorsSpec)

/-- 'gradinelaw21.HierBuffer', WHERE WHAT IT READS IS OF BULK AT MOST 1048576: true; the input reads as it did. -/
def hierBufferUptoRow : OpenClaim := { program := "ytnnebakkcdclmaagreat", sum := "7a34e178c925716cc1c36fb0a8a2301fceb2329c2e3bc5a9717dcce638ecf130", func := "gradine/gradinelaw21.HierBuffer", spec := "hierBuffer", unfollowed := true, recurses := true, plainKeys := false, apart := false, narrowed := true }
def HierBufferUptoSaid : Prop := hierBufferUptoRow.holds Tryz.pinned (OpenSpec.upto hierBufferSpec)

/-- 'gradinelaw21.HierOne', WHERE WHAT IT READS IS OF BULK AT MOST 1048576: true; the input reads as it did. -/
def hierOneUptoRow : OpenClaim := { program := "ytnnebakkcdclmaagreat", sum := "7a34e178c925716cc1c36fb0a8a2301fceb2329c2e3bc5a9717dcce638ecf130", func := "gradine/gradinelaw21.HierOne", spec := "hierOne", unfollowed := true, recurses := true, plainKeys := false, apart := false, narrowed := true }
def HierOneUptoSaid : Prop := hierOneUptoRow.holds Tryz.pinned (OpenSpec.upto hierOneSpec)

/-- 'gradinelaw21.HierTicks', WHERE WHAT IT READS IS OF BULK AT MOST 1048576: true; the input reads as it did. -/
def hierTicksUptoRow : OpenClaim := { program := "ytnnebakkcdclmaagreat", sum := "7a34e178c925716cc1c36fb0a8a2301fceb2329c2e3bc5a9717dcce638ecf130", func := "gradine/gradinelaw21.HierTicks", spec := "hierTicks", unfollowed := true, recurses := true, plainKeys := false, apart := false, narrowed := true }
def HierTicksUptoSaid : Prop := hierTicksUptoRow.holds Tryz.pinned (OpenSpec.upto hierTicksSpec)

/-- 'gradinelaw22.DrainTill', WHERE WHAT IT READS IS OF BULK AT MOST 1048576: true; the input reads as it did. -/
def drainTillUptoRow : OpenClaim := { program := "ytnnebakkcdclmaagreat", sum := "7a34e178c925716cc1c36fb0a8a2301fceb2329c2e3bc5a9717dcce638ecf130", func := "gradine/gradinelaw22.DrainTill", spec := "drainTill", unfollowed := true, recurses := true, plainKeys := false, apart := false, narrowed := true }
def DrainTillUptoSaid : Prop := drainTillUptoRow.holds Tryz.pinned (OpenSpec.upto drainTillSpec)

/-- 'gradinelaw22.DrainBound', WHERE WHAT IT READS IS OF BULK AT MOST 1048576: true; the input reads as it did. -/
def drainBoundUptoRow : OpenClaim := { program := "ytnnebakkcdclmaagreat", sum := "7a34e178c925716cc1c36fb0a8a2301fceb2329c2e3bc5a9717dcce638ecf130", func := "gradine/gradinelaw22.DrainBound", spec := "drainBound", unfollowed := true, recurses := true, plainKeys := false, apart := false, narrowed := true }
def DrainBoundUptoSaid : Prop := drainBoundUptoRow.holds Tryz.pinned (OpenSpec.upto drainBoundSpec)

/-- 'gradinelaw21.HierHints', WHERE WHAT IT READS IS OF BULK AT MOST 1048576: true; the input reads as it did. -/
def hierHintsUptoRow : OpenClaim := { program := "ytnnebakkcdclmaagreat", sum := "7a34e178c925716cc1c36fb0a8a2301fceb2329c2e3bc5a9717dcce638ecf130", func := "gradine/gradinelaw21.HierHints", spec := "hierHints", unfollowed := true, recurses := true, plainKeys := false, apart := false, narrowed := true }
def HierHintsUptoSaid : Prop := hierHintsUptoRow.holds Tryz.pinned (OpenSpec.upto hierHintsSpec)

/-- 'gradinelaw21.HierCuts', WHERE WHAT IT READS IS OF BULK AT MOST 1048576: true; the input reads as it did. -/
def hierCutsUptoRow : OpenClaim := { program := "ytnnebakkcdclmaagreat", sum := "7a34e178c925716cc1c36fb0a8a2301fceb2329c2e3bc5a9717dcce638ecf130", func := "gradine/gradinelaw21.HierCuts", spec := "hierCuts", unfollowed := true, recurses := true, plainKeys := false, apart := false, narrowed := true }
def HierCutsUptoSaid : Prop := hierCutsUptoRow.holds Tryz.pinned (OpenSpec.upto hierCutsSpec)

/-- 'gradinelaw21.HierBounds', WHERE WHAT IT READS IS OF BULK AT MOST 1048576: true; the input reads as it did. -/
def hierBoundsUptoRow : OpenClaim := { program := "ytnnebakkcdclmaagreat", sum := "7a34e178c925716cc1c36fb0a8a2301fceb2329c2e3bc5a9717dcce638ecf130", func := "gradine/gradinelaw21.HierBounds", spec := "hierBounds", unfollowed := true, recurses := true, plainKeys := false, apart := false, narrowed := true }
def HierBoundsUptoSaid : Prop := hierBoundsUptoRow.holds Tryz.pinned (OpenSpec.upto hierBoundsSpec)

/-- 'gradinelaw21.HierSame', WHERE WHAT IT READS IS OF BULK AT MOST 1048576: true; the input reads as it did. -/
def hierSameUptoRow : OpenClaim := { program := "ytnnebakkcdclmaagreat", sum := "7a34e178c925716cc1c36fb0a8a2301fceb2329c2e3bc5a9717dcce638ecf130", func := "gradine/gradinelaw21.HierSame", spec := "hierSame", unfollowed := true, recurses := true, plainKeys := false, apart := false, narrowed := true }
def HierSameUptoSaid : Prop := hierSameUptoRow.holds Tryz.pinned (OpenSpec.upto hierSameSpec)

/-- 'gradinelaw21.HierNil', WHERE WHAT IT READS IS OF BULK AT MOST 1048576: true; the input reads as it did. -/
def hierNilUptoRow : OpenClaim := { program := "ytnnebakkcdclmaagreat", sum := "7a34e178c925716cc1c36fb0a8a2301fceb2329c2e3bc5a9717dcce638ecf130", func := "gradine/gradinelaw21.HierNil", spec := "hierNil", unfollowed := true, recurses := true, plainKeys := false, apart := false, narrowed := true }
def HierNilUptoSaid : Prop := hierNilUptoRow.holds Tryz.pinned (OpenSpec.upto hierNilSpec)

end Rows
end Go.Proofs.YtnnebakkcdclmaaGreat
