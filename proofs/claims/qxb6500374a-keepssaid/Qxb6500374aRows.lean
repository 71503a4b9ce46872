/-
  No cell of these rows narrows 'for every input' (looked for: loops, veiled, ifaces, maps, wideKeys, modest, calm, conditions, laid).
  DERIVED. THE GIVEN ROWS OF THIS SEAT. 18 by the template 'for every input the law returns true; each argument reads behind the call as it read before'; 0 by the template 'total and deterministic' (their statements: Qxb6500374aTotals.lean).
  GIVEN WITH THE SEED: the statements are not yours to turn. If you find one false, say at which input.
  Laid BY PROGRAM, IN A SANDBOX (cutbox-rows.mjs): the forced cells as the released guide's own fill.sh prints them over the translation af10c024705c65ef… (all of the seat's roots in one cut). By AI agents, Wed Nov 11 2026. No macro, syntax, notation, axiom, sorry.
-/
import Derived.Test.Qxb6500374aChecked
import GoSem.Claim
import GoSem.ClaimJoined
import GoSem.ClaimMapViews
import Derived.JoinedTies
import Derived.KernelRfl
namespace Go.Proofs.Qxb6500374a
/- THE CELL 'sum', in the pinned program and in every row, IS THE sha256 OF THE DUMP (.gsa) THAT Qxb6500374aProg.lean LOADS. Nothing in Lean hashes anything: it is a label: what it is worth is what the hold of that sum in a sandbox is worth. -/
noncomputable def Try.pinned : Pinned := { name := "qxb6500374a", sum := "af10c024705c65efe1e71990f9b8c10130e794f7f4a939325b16c68847d4d7f8", checked := Try.checked }
namespace Rows
def none {H : Type} : Left H := { results := [], args := [] }

/-- 'worklaw.EdgeChain': WHATEVER THE INPUT: true; the input reads as it did. -/
def edgeChainSpec : ChangeSpec := { name := "edgeChain", fn := fun _ => fun
  | [d] => { results := [.lit (.bool true)], args := [d] }
  | _ => none }
def edgeChainRow : OpenClaim := { program := "qxb6500374a", sum := "af10c024705c65efe1e71990f9b8c10130e794f7f4a939325b16c68847d4d7f8", func := "e2e/worklaw.EdgeChain", spec := "edgeChain", apart := false }
def EdgeChainSaid : Prop := edgeChainRow.holds Try.pinned (OpenSpec.ofChange edgeChainSpec)

/-- ITS FALSE NEIGHBOUR: 'it returns false'. Refute it at one input. -/
def edgeChainWrong : ChangeSpec := { name := "edgeChain", fn := fun _ => fun
  | [d] => { results := [.lit (.bool false)], args := [d] }
  | _ => none }
def EdgeChainWrongFalsely : Prop := edgeChainRow.holds Try.pinned (OpenSpec.ofChange edgeChainWrong)

/-- 'worklaw.EdgeLoneNode': WHATEVER THE INPUT: true; the input reads as it did. -/
def edgeLoneNodeSpec : ChangeSpec := { name := "edgeLoneNode", fn := fun _ => fun
  | [d] => { results := [.lit (.bool true)], args := [d] }
  | _ => none }
def edgeLoneNodeRow : OpenClaim := { program := "qxb6500374a", sum := "af10c024705c65efe1e71990f9b8c10130e794f7f4a939325b16c68847d4d7f8", func := "e2e/worklaw.EdgeLoneNode", spec := "edgeLoneNode", apart := false }
def EdgeLoneNodeSaid : Prop := edgeLoneNodeRow.holds Try.pinned (OpenSpec.ofChange edgeLoneNodeSpec)

/-- ITS FALSE NEIGHBOUR: 'it returns false'. Refute it at one input. -/
def edgeLoneNodeWrong : ChangeSpec := { name := "edgeLoneNode", fn := fun _ => fun
  | [d] => { results := [.lit (.bool false)], args := [d] }
  | _ => none }
def EdgeLoneNodeWrongFalsely : Prop := edgeLoneNodeRow.holds Try.pinned (OpenSpec.ofChange edgeLoneNodeWrong)

/-- 'worklaw.EdgeSelfLoop': WHATEVER THE INPUT: true; the input reads as it did. -/
def edgeSelfLoopSpec : ChangeSpec := { name := "edgeSelfLoop", fn := fun _ => fun
  | [d] => { results := [.lit (.bool true)], args := [d] }
  | _ => none }
def edgeSelfLoopRow : OpenClaim := { program := "qxb6500374a", sum := "af10c024705c65efe1e71990f9b8c10130e794f7f4a939325b16c68847d4d7f8", func := "e2e/worklaw.EdgeSelfLoop", spec := "edgeSelfLoop", apart := false }
def EdgeSelfLoopSaid : Prop := edgeSelfLoopRow.holds Try.pinned (OpenSpec.ofChange edgeSelfLoopSpec)

/-- ITS FALSE NEIGHBOUR: 'it returns false'. Refute it at one input. -/
def edgeSelfLoopWrong : ChangeSpec := { name := "edgeSelfLoop", fn := fun _ => fun
  | [d] => { results := [.lit (.bool false)], args := [d] }
  | _ => none }
def EdgeSelfLoopWrongFalsely : Prop := edgeSelfLoopRow.holds Try.pinned (OpenSpec.ofChange edgeSelfLoopWrong)

/-- 'worklaw.EdgeCycle': WHATEVER THE INPUT: true; the input reads as it did. -/
def edgeCycleSpec : ChangeSpec := { name := "edgeCycle", fn := fun _ => fun
  | [d] => { results := [.lit (.bool true)], args := [d] }
  | _ => none }
def edgeCycleRow : OpenClaim := { program := "qxb6500374a", sum := "af10c024705c65efe1e71990f9b8c10130e794f7f4a939325b16c68847d4d7f8", func := "e2e/worklaw.EdgeCycle", spec := "edgeCycle", apart := false }
def EdgeCycleSaid : Prop := edgeCycleRow.holds Try.pinned (OpenSpec.ofChange edgeCycleSpec)

/-- ITS FALSE NEIGHBOUR: 'it returns false'. Refute it at one input. -/
def edgeCycleWrong : ChangeSpec := { name := "edgeCycle", fn := fun _ => fun
  | [d] => { results := [.lit (.bool false)], args := [d] }
  | _ => none }
def EdgeCycleWrongFalsely : Prop := edgeCycleRow.holds Try.pinned (OpenSpec.ofChange edgeCycleWrong)

/-- 'worklaw.EdgeEveryOther': WHATEVER THE INPUT: true; the input reads as it did. -/
def edgeEveryOtherSpec : ChangeSpec := { name := "edgeEveryOther", fn := fun _ => fun
  | [d] => { results := [.lit (.bool true)], args := [d] }
  | _ => none }
def edgeEveryOtherRow : OpenClaim := { program := "qxb6500374a", sum := "af10c024705c65efe1e71990f9b8c10130e794f7f4a939325b16c68847d4d7f8", func := "e2e/worklaw.EdgeEveryOther", spec := "edgeEveryOther", apart := false }
def EdgeEveryOtherSaid : Prop := edgeEveryOtherRow.holds Try.pinned (OpenSpec.ofChange edgeEveryOtherSpec)

/-- ITS FALSE NEIGHBOUR: 'it returns false'. Refute it at one input. -/
def edgeEveryOtherWrong : ChangeSpec := { name := "edgeEveryOther", fn := fun _ => fun
  | [d] => { results := [.lit (.bool false)], args := [d] }
  | _ => none }
def EdgeEveryOtherWrongFalsely : Prop := edgeEveryOtherRow.holds Try.pinned (OpenSpec.ofChange edgeEveryOtherWrong)

/-- 'worklaw.EdgeTwoLevels': WHATEVER THE INPUT: true; the input reads as it did. -/
def edgeTwoLevelsSpec : ChangeSpec := { name := "edgeTwoLevels", fn := fun _ => fun
  | [d] => { results := [.lit (.bool true)], args := [d] }
  | _ => none }
def edgeTwoLevelsRow : OpenClaim := { program := "qxb6500374a", sum := "af10c024705c65efe1e71990f9b8c10130e794f7f4a939325b16c68847d4d7f8", func := "e2e/worklaw.EdgeTwoLevels", spec := "edgeTwoLevels", apart := false }
def EdgeTwoLevelsSaid : Prop := edgeTwoLevelsRow.holds Try.pinned (OpenSpec.ofChange edgeTwoLevelsSpec)

/-- ITS FALSE NEIGHBOUR: 'it returns false'. Refute it at one input. -/
def edgeTwoLevelsWrong : ChangeSpec := { name := "edgeTwoLevels", fn := fun _ => fun
  | [d] => { results := [.lit (.bool false)], args := [d] }
  | _ => none }
def EdgeTwoLevelsWrongFalsely : Prop := edgeTwoLevelsRow.holds Try.pinned (OpenSpec.ofChange edgeTwoLevelsWrong)

/-- 'worklaw.EdgeNoTwinThere': WHATEVER THE INPUT: true; the input reads as it did. -/
def edgeNoTwinThereSpec : ChangeSpec := { name := "edgeNoTwinThere", fn := fun _ => fun
  | [d] => { results := [.lit (.bool true)], args := [d] }
  | _ => none }
def edgeNoTwinThereRow : OpenClaim := { program := "qxb6500374a", sum := "af10c024705c65efe1e71990f9b8c10130e794f7f4a939325b16c68847d4d7f8", func := "e2e/worklaw.EdgeNoTwinThere", spec := "edgeNoTwinThere", apart := false }
def EdgeNoTwinThereSaid : Prop := edgeNoTwinThereRow.holds Try.pinned (OpenSpec.ofChange edgeNoTwinThereSpec)

/-- ITS FALSE NEIGHBOUR: 'it returns false'. Refute it at one input. -/
def edgeNoTwinThereWrong : ChangeSpec := { name := "edgeNoTwinThere", fn := fun _ => fun
  | [d] => { results := [.lit (.bool false)], args := [d] }
  | _ => none }
def EdgeNoTwinThereWrongFalsely : Prop := edgeNoTwinThereRow.holds Try.pinned (OpenSpec.ofChange edgeNoTwinThereWrong)

/-- 'worklaw.EdgeNaNPilesUp': WHATEVER THE INPUT: true; the input reads as it did. -/
def edgeNaNPilesUpSpec : ChangeSpec := { name := "edgeNaNPilesUp", fn := fun _ => fun
  | [d] => { results := [.lit (.bool true)], args := [d] }
  | _ => none }
def edgeNaNPilesUpRow : OpenClaim := { program := "qxb6500374a", sum := "af10c024705c65efe1e71990f9b8c10130e794f7f4a939325b16c68847d4d7f8", func := "e2e/worklaw.EdgeNaNPilesUp", spec := "edgeNaNPilesUp", apart := false }
def EdgeNaNPilesUpSaid : Prop := edgeNaNPilesUpRow.holds Try.pinned (OpenSpec.ofChange edgeNaNPilesUpSpec)

/-- ITS FALSE NEIGHBOUR: 'it returns false'. Refute it at one input. -/
def edgeNaNPilesUpWrong : ChangeSpec := { name := "edgeNaNPilesUp", fn := fun _ => fun
  | [d] => { results := [.lit (.bool false)], args := [d] }
  | _ => none }
def EdgeNaNPilesUpWrongFalsely : Prop := edgeNaNPilesUpRow.holds Try.pinned (OpenSpec.ofChange edgeNaNPilesUpWrong)

/-- 'worklaw.EdgeOneNumberOneKey': WHATEVER THE INPUT: true; the input reads as it did. -/
def edgeOneNumberOneKeySpec : ChangeSpec := { name := "edgeOneNumberOneKey", fn := fun _ => fun
  | [d] => { results := [.lit (.bool true)], args := [d] }
  | _ => none }
def edgeOneNumberOneKeyRow : OpenClaim := { program := "qxb6500374a", sum := "af10c024705c65efe1e71990f9b8c10130e794f7f4a939325b16c68847d4d7f8", func := "e2e/worklaw.EdgeOneNumberOneKey", spec := "edgeOneNumberOneKey", apart := false }
def EdgeOneNumberOneKeySaid : Prop := edgeOneNumberOneKeyRow.holds Try.pinned (OpenSpec.ofChange edgeOneNumberOneKeySpec)

/-- ITS FALSE NEIGHBOUR: 'it returns false'. Refute it at one input. -/
def edgeOneNumberOneKeyWrong : ChangeSpec := { name := "edgeOneNumberOneKey", fn := fun _ => fun
  | [d] => { results := [.lit (.bool false)], args := [d] }
  | _ => none }
def EdgeOneNumberOneKeyWrongFalsely : Prop := edgeOneNumberOneKeyRow.holds Try.pinned (OpenSpec.ofChange edgeOneNumberOneKeyWrong)

/-- 'worklaw.EdgeNaNFillsTheHistogram': WHATEVER THE INPUT: true; the input reads as it did. -/
def edgeNaNFillsTheHistogramSpec : ChangeSpec := { name := "edgeNaNFillsTheHistogram", fn := fun _ => fun
  | [d] => { results := [.lit (.bool true)], args := [d] }
  | _ => none }
def edgeNaNFillsTheHistogramRow : OpenClaim := { program := "qxb6500374a", sum := "af10c024705c65efe1e71990f9b8c10130e794f7f4a939325b16c68847d4d7f8", func := "e2e/worklaw.EdgeNaNFillsTheHistogram", spec := "edgeNaNFillsTheHistogram", apart := false }
def EdgeNaNFillsTheHistogramSaid : Prop := edgeNaNFillsTheHistogramRow.holds Try.pinned (OpenSpec.ofChange edgeNaNFillsTheHistogramSpec)

/-- ITS FALSE NEIGHBOUR: 'it returns false'. Refute it at one input. -/
def edgeNaNFillsTheHistogramWrong : ChangeSpec := { name := "edgeNaNFillsTheHistogram", fn := fun _ => fun
  | [d] => { results := [.lit (.bool false)], args := [d] }
  | _ => none }
def EdgeNaNFillsTheHistogramWrongFalsely : Prop := edgeNaNFillsTheHistogramRow.holds Try.pinned (OpenSpec.ofChange edgeNaNFillsTheHistogramWrong)

/-- 'worklaw.EdgeFullButHeld': WHATEVER THE INPUT: true; the input reads as it did. -/
def edgeFullButHeldSpec : ChangeSpec := { name := "edgeFullButHeld", fn := fun _ => fun
  | [d] => { results := [.lit (.bool true)], args := [d] }
  | _ => none }
def edgeFullButHeldRow : OpenClaim := { program := "qxb6500374a", sum := "af10c024705c65efe1e71990f9b8c10130e794f7f4a939325b16c68847d4d7f8", func := "e2e/worklaw.EdgeFullButHeld", spec := "edgeFullButHeld", apart := false }
def EdgeFullButHeldSaid : Prop := edgeFullButHeldRow.holds Try.pinned (OpenSpec.ofChange edgeFullButHeldSpec)

/-- ITS FALSE NEIGHBOUR: 'it returns false'. Refute it at one input. -/
def edgeFullButHeldWrong : ChangeSpec := { name := "edgeFullButHeld", fn := fun _ => fun
  | [d] => { results := [.lit (.bool false)], args := [d] }
  | _ => none }
def EdgeFullButHeldWrongFalsely : Prop := edgeFullButHeldRow.holds Try.pinned (OpenSpec.ofChange edgeFullButHeldWrong)

/-- 'worklaw.EdgePruneInHand': WHATEVER THE INPUT: true; the input reads as it did. -/
def edgePruneInHandSpec : ChangeSpec := { name := "edgePruneInHand", fn := fun _ => fun
  | [d] => { results := [.lit (.bool true)], args := [d] }
  | _ => none }
def edgePruneInHandRow : OpenClaim := { program := "qxb6500374a", sum := "af10c024705c65efe1e71990f9b8c10130e794f7f4a939325b16c68847d4d7f8", func := "e2e/worklaw.EdgePruneInHand", spec := "edgePruneInHand", apart := false }
def EdgePruneInHandSaid : Prop := edgePruneInHandRow.holds Try.pinned (OpenSpec.ofChange edgePruneInHandSpec)

/-- ITS FALSE NEIGHBOUR: 'it returns false'. Refute it at one input. -/
def edgePruneInHandWrong : ChangeSpec := { name := "edgePruneInHand", fn := fun _ => fun
  | [d] => { results := [.lit (.bool false)], args := [d] }
  | _ => none }
def EdgePruneInHandWrongFalsely : Prop := edgePruneInHandRow.holds Try.pinned (OpenSpec.ofChange edgePruneInHandWrong)

/-- 'worklaw.EdgeShowWhole': WHATEVER THE INPUT: true; the input reads as it did. -/
def edgeShowWholeSpec : ChangeSpec := { name := "edgeShowWhole", fn := fun _ => fun
  | [d] => { results := [.lit (.bool true)], args := [d] }
  | _ => none }
def edgeShowWholeRow : OpenClaim := { program := "qxb6500374a", sum := "af10c024705c65efe1e71990f9b8c10130e794f7f4a939325b16c68847d4d7f8", func := "e2e/worklaw.EdgeShowWhole", spec := "edgeShowWhole", apart := false }
def EdgeShowWholeSaid : Prop := edgeShowWholeRow.holds Try.pinned (OpenSpec.ofChange edgeShowWholeSpec)

/-- ITS FALSE NEIGHBOUR: 'it returns false'. Refute it at one input. -/
def edgeShowWholeWrong : ChangeSpec := { name := "edgeShowWhole", fn := fun _ => fun
  | [d] => { results := [.lit (.bool false)], args := [d] }
  | _ => none }
def EdgeShowWholeWrongFalsely : Prop := edgeShowWholeRow.holds Try.pinned (OpenSpec.ofChange edgeShowWholeWrong)

/-- 'worklaw.EdgeApart': WHATEVER THE INPUT: true; the input reads as it did. -/
def edgeApartSpec : ChangeSpec := { name := "edgeApart", fn := fun _ => fun
  | [d] => { results := [.lit (.bool true)], args := [d] }
  | _ => none }
def edgeApartRow : OpenClaim := { program := "qxb6500374a", sum := "af10c024705c65efe1e71990f9b8c10130e794f7f4a939325b16c68847d4d7f8", func := "e2e/worklaw.EdgeApart", spec := "edgeApart", apart := false }
def EdgeApartSaid : Prop := edgeApartRow.holds Try.pinned (OpenSpec.ofChange edgeApartSpec)

/-- ITS FALSE NEIGHBOUR: 'it returns false'. Refute it at one input. -/
def edgeApartWrong : ChangeSpec := { name := "edgeApart", fn := fun _ => fun
  | [d] => { results := [.lit (.bool false)], args := [d] }
  | _ => none }
def EdgeApartWrongFalsely : Prop := edgeApartRow.holds Try.pinned (OpenSpec.ofChange edgeApartWrong)

/-- 'worklaw.Edges': WHATEVER THE INPUT: true; the input reads as it did. -/
def edgesSpec : ChangeSpec := { name := "edges", fn := fun _ => fun
  | [d] => { results := [.lit (.bool true)], args := [d] }
  | _ => none }
def edgesRow : OpenClaim := { program := "qxb6500374a", sum := "af10c024705c65efe1e71990f9b8c10130e794f7f4a939325b16c68847d4d7f8", func := "e2e/worklaw.Edges", spec := "edges", apart := false }
def EdgesSaid : Prop := edgesRow.holds Try.pinned (OpenSpec.ofChange edgesSpec)

/-- ITS FALSE NEIGHBOUR: 'it returns false'. Refute it at one input. -/
def edgesWrong : ChangeSpec := { name := "edges", fn := fun _ => fun
  | [d] => { results := [.lit (.bool false)], args := [d] }
  | _ => none }
def EdgesWrongFalsely : Prop := edgesRow.holds Try.pinned (OpenSpec.ofChange edgesWrong)

/-- 'worklaw.Keeps': WHATEVER THE INPUT: true; the input reads as it did. -/
def keepsSpec : ChangeSpec := { name := "keeps", fn := fun _ => fun
  | [d] => { results := [.lit (.bool true)], args := [d] }
  | _ => none }
def keepsRow : OpenClaim := { program := "qxb6500374a", sum := "af10c024705c65efe1e71990f9b8c10130e794f7f4a939325b16c68847d4d7f8", func := "e2e/worklaw.Keeps", spec := "keeps", apart := false }
def KeepsSaid : Prop := keepsRow.holds Try.pinned (OpenSpec.ofChange keepsSpec)

/-- ITS FALSE NEIGHBOUR: 'it returns false'. Refute it at one input. -/
def keepsWrong : ChangeSpec := { name := "keeps", fn := fun _ => fun
  | [d] => { results := [.lit (.bool false)], args := [d] }
  | _ => none }
def KeepsWrongFalsely : Prop := keepsRow.holds Try.pinned (OpenSpec.ofChange keepsWrong)

/-- 'worklaw.Refines': WHATEVER THE INPUT: true; the input reads as it did. -/
def refinesSpec : ChangeSpec := { name := "refines", fn := fun _ => fun
  | [d] => { results := [.lit (.bool true)], args := [d] }
  | _ => none }
def refinesRow : OpenClaim := { program := "qxb6500374a", sum := "af10c024705c65efe1e71990f9b8c10130e794f7f4a939325b16c68847d4d7f8", func := "e2e/worklaw.Refines", spec := "refines", apart := false }
def RefinesSaid : Prop := refinesRow.holds Try.pinned (OpenSpec.ofChange refinesSpec)

/-- ITS FALSE NEIGHBOUR: 'it returns false'. Refute it at one input. -/
def refinesWrong : ChangeSpec := { name := "refines", fn := fun _ => fun
  | [d] => { results := [.lit (.bool false)], args := [d] }
  | _ => none }
def RefinesWrongFalsely : Prop := refinesRow.holds Try.pinned (OpenSpec.ofChange refinesWrong)

/-- 'worklaw.RefinesQuiet': WHATEVER THE INPUT: true; the input reads as it did. -/
def refinesQuietSpec : ChangeSpec := { name := "refinesQuiet", fn := fun _ => fun
  | [d] => { results := [.lit (.bool true)], args := [d] }
  | _ => none }
def refinesQuietRow : OpenClaim := { program := "qxb6500374a", sum := "af10c024705c65efe1e71990f9b8c10130e794f7f4a939325b16c68847d4d7f8", func := "e2e/worklaw.RefinesQuiet", spec := "refinesQuiet", apart := false }
def RefinesQuietSaid : Prop := refinesQuietRow.holds Try.pinned (OpenSpec.ofChange refinesQuietSpec)

/-- ITS FALSE NEIGHBOUR: 'it returns false'. Refute it at one input. -/
def refinesQuietWrong : ChangeSpec := { name := "refinesQuiet", fn := fun _ => fun
  | [d] => { results := [.lit (.bool false)], args := [d] }
  | _ => none }
def RefinesQuietWrongFalsely : Prop := refinesQuietRow.holds Try.pinned (OpenSpec.ofChange refinesQuietWrong)

end Rows
end Go.Proofs.Qxb6500374a
