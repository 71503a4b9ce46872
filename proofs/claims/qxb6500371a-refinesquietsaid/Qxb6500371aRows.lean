/-
  No cell of these rows narrows 'for every input' (looked for: loops, veiled, ifaces, maps, wideKeys, modest, calm, conditions, laid).
  DERIVED. THE GIVEN ROWS OF THIS SEAT. 29 by the template 'for every input the law returns true; each argument reads behind the call as it read before'; 0 by the template 'total and deterministic' (their statements: Qxb6500371aTotals.lean).
  GIVEN WITH THE SEED: the statements are not yours to turn. If you find one false, say at which input.
  Laid BY PROGRAM, IN A SANDBOX (cutbox-rows.mjs): the forced cells as the released guide's own fill.sh prints them over the translation ee1d8ac5d9181cc3… (all of the seat's roots in one cut). By AI agents, Wed Nov 11 2026. No macro, syntax, notation, axiom, sorry.
-/
import Derived.Test.Qxb6500371aChecked
import GoSem.Claim
import GoSem.ClaimJoined
import GoSem.ClaimMapViews
import Derived.JoinedTies
import Derived.KernelRfl
namespace Go.Proofs.Qxb6500371a
/- THE CELL 'sum', in the pinned program and in every row, IS THE sha256 OF THE DUMP (.gsa) THAT Qxb6500371aProg.lean LOADS. Nothing in Lean hashes anything: it is a label: what it is worth is what the hold of that sum in a sandbox is worth. -/
noncomputable def Try.pinned : Pinned := { name := "qxb6500371a", sum := "ee1d8ac5d9181cc3bee2799309fc17608f45836cbafe29e815d2b32285acccf5", checked := Try.checked }
namespace Rows
def none {H : Type} : Left H := { results := [], args := [] }

/-- 'decolaw.Keeps': WHATEVER THE INPUT: true; the input reads as it did. -/
def keepsSpec : ChangeSpec := { name := "keeps", fn := fun _ => fun
  | [d] => { results := [.lit (.bool true)], args := [d] }
  | _ => none }
def keepsRow : OpenClaim := { program := "qxb6500371a", sum := "ee1d8ac5d9181cc3bee2799309fc17608f45836cbafe29e815d2b32285acccf5", func := "e2e/decolaw.Keeps", spec := "keeps", unfollowed := true, recurses := true, apart := false }
def KeepsSaid : Prop := keepsRow.holds Try.pinned (OpenSpec.ofChange keepsSpec)

/-- ITS FALSE NEIGHBOUR: 'it returns false'. Refute it at one input. -/
def keepsWrong : ChangeSpec := { name := "keeps", fn := fun _ => fun
  | [d] => { results := [.lit (.bool false)], args := [d] }
  | _ => none }
def KeepsWrongFalsely : Prop := keepsRow.holds Try.pinned (OpenSpec.ofChange keepsWrong)

/-- 'decolaw.Apart': WHATEVER THE INPUT: true; the input reads as it did. -/
def apartSpec : ChangeSpec := { name := "apart", fn := fun _ => fun
  | [d] => { results := [.lit (.bool true)], args := [d] }
  | _ => none }
def apartRow : OpenClaim := { program := "qxb6500371a", sum := "ee1d8ac5d9181cc3bee2799309fc17608f45836cbafe29e815d2b32285acccf5", func := "e2e/decolaw.Apart", spec := "apart", unfollowed := true, recurses := true, apart := false }
def ApartSaid : Prop := apartRow.holds Try.pinned (OpenSpec.ofChange apartSpec)

/-- ITS FALSE NEIGHBOUR: 'it returns false'. Refute it at one input. -/
def apartWrong : ChangeSpec := { name := "apart", fn := fun _ => fun
  | [d] => { results := [.lit (.bool false)], args := [d] }
  | _ => none }
def ApartWrongFalsely : Prop := apartRow.holds Try.pinned (OpenSpec.ofChange apartWrong)

/-- 'decolaw.Refines': WHATEVER THE INPUT: true; the input reads as it did. -/
def refinesSpec : ChangeSpec := { name := "refines", fn := fun _ => fun
  | [d] => { results := [.lit (.bool true)], args := [d] }
  | _ => none }
def refinesRow : OpenClaim := { program := "qxb6500371a", sum := "ee1d8ac5d9181cc3bee2799309fc17608f45836cbafe29e815d2b32285acccf5", func := "e2e/decolaw.Refines", spec := "refines", unfollowed := true, recurses := true, apart := false }
def RefinesSaid : Prop := refinesRow.holds Try.pinned (OpenSpec.ofChange refinesSpec)

/-- ITS FALSE NEIGHBOUR: 'it returns false'. Refute it at one input. -/
def refinesWrong : ChangeSpec := { name := "refines", fn := fun _ => fun
  | [d] => { results := [.lit (.bool false)], args := [d] }
  | _ => none }
def RefinesWrongFalsely : Prop := refinesRow.holds Try.pinned (OpenSpec.ofChange refinesWrong)

/-- 'decolaw.RefinesQuiet': WHATEVER THE INPUT: true; the input reads as it did. -/
def refinesQuietSpec : ChangeSpec := { name := "refinesQuiet", fn := fun _ => fun
  | [d] => { results := [.lit (.bool true)], args := [d] }
  | _ => none }
def refinesQuietRow : OpenClaim := { program := "qxb6500371a", sum := "ee1d8ac5d9181cc3bee2799309fc17608f45836cbafe29e815d2b32285acccf5", func := "e2e/decolaw.RefinesQuiet", spec := "refinesQuiet", unfollowed := true, recurses := true, apart := false }
def RefinesQuietSaid : Prop := refinesQuietRow.holds Try.pinned (OpenSpec.ofChange refinesQuietSpec)

/-- ITS FALSE NEIGHBOUR: 'it returns false'. Refute it at one input. -/
def refinesQuietWrong : ChangeSpec := { name := "refinesQuiet", fn := fun _ => fun
  | [d] => { results := [.lit (.bool false)], args := [d] }
  | _ => none }
def RefinesQuietWrongFalsely : Prop := refinesQuietRow.holds Try.pinned (OpenSpec.ofChange refinesQuietWrong)

/-- 'decolaw.EdgePromotedIface': WHATEVER THE INPUT: true; the input reads as it did. -/
def edgePromotedIfaceSpec : ChangeSpec := { name := "edgePromotedIface", fn := fun _ => fun
  | [] => { results := [.lit (.bool true)], args := [] }
  | _ => none }
def edgePromotedIfaceRow : OpenClaim := { program := "qxb6500371a", sum := "ee1d8ac5d9181cc3bee2799309fc17608f45836cbafe29e815d2b32285acccf5", func := "e2e/decolaw.EdgePromotedIface", spec := "edgePromotedIface", unfollowed := true, recurses := true, apart := false }
def EdgePromotedIfaceSaid : Prop := edgePromotedIfaceRow.holds Try.pinned (OpenSpec.ofChange edgePromotedIfaceSpec)

/-- ITS FALSE NEIGHBOUR: 'it returns false'. Refute it at one input. -/
def edgePromotedIfaceWrong : ChangeSpec := { name := "edgePromotedIface", fn := fun _ => fun
  | [] => { results := [.lit (.bool false)], args := [] }
  | _ => none }
def EdgePromotedIfaceWrongFalsely : Prop := edgePromotedIfaceRow.holds Try.pinned (OpenSpec.ofChange edgePromotedIfaceWrong)

/-- 'decolaw.EdgePromotedPointer': WHATEVER THE INPUT: true; the input reads as it did. -/
def edgePromotedPointerSpec : ChangeSpec := { name := "edgePromotedPointer", fn := fun _ => fun
  | [] => { results := [.lit (.bool true)], args := [] }
  | _ => none }
def edgePromotedPointerRow : OpenClaim := { program := "qxb6500371a", sum := "ee1d8ac5d9181cc3bee2799309fc17608f45836cbafe29e815d2b32285acccf5", func := "e2e/decolaw.EdgePromotedPointer", spec := "edgePromotedPointer", unfollowed := true, recurses := true, apart := false }
def EdgePromotedPointerSaid : Prop := edgePromotedPointerRow.holds Try.pinned (OpenSpec.ofChange edgePromotedPointerSpec)

/-- ITS FALSE NEIGHBOUR: 'it returns false'. Refute it at one input. -/
def edgePromotedPointerWrong : ChangeSpec := { name := "edgePromotedPointer", fn := fun _ => fun
  | [] => { results := [.lit (.bool false)], args := [] }
  | _ => none }
def EdgePromotedPointerWrongFalsely : Prop := edgePromotedPointerRow.holds Try.pinned (OpenSpec.ofChange edgePromotedPointerWrong)

/-- 'decolaw.EdgeDepthTwo': WHATEVER THE INPUT: true; the input reads as it did. -/
def edgeDepthTwoSpec : ChangeSpec := { name := "edgeDepthTwo", fn := fun _ => fun
  | [] => { results := [.lit (.bool true)], args := [] }
  | _ => none }
def edgeDepthTwoRow : OpenClaim := { program := "qxb6500371a", sum := "ee1d8ac5d9181cc3bee2799309fc17608f45836cbafe29e815d2b32285acccf5", func := "e2e/decolaw.EdgeDepthTwo", spec := "edgeDepthTwo", unfollowed := true, recurses := true, apart := false }
def EdgeDepthTwoSaid : Prop := edgeDepthTwoRow.holds Try.pinned (OpenSpec.ofChange edgeDepthTwoSpec)

/-- ITS FALSE NEIGHBOUR: 'it returns false'. Refute it at one input. -/
def edgeDepthTwoWrong : ChangeSpec := { name := "edgeDepthTwo", fn := fun _ => fun
  | [] => { results := [.lit (.bool false)], args := [] }
  | _ => none }
def EdgeDepthTwoWrongFalsely : Prop := edgeDepthTwoRow.holds Try.pinned (OpenSpec.ofChange edgeDepthTwoWrong)

/-- 'decolaw.EdgeShallowWins': WHATEVER THE INPUT: true; the input reads as it did. -/
def edgeShallowWinsSpec : ChangeSpec := { name := "edgeShallowWins", fn := fun _ => fun
  | [] => { results := [.lit (.bool true)], args := [] }
  | _ => none }
def edgeShallowWinsRow : OpenClaim := { program := "qxb6500371a", sum := "ee1d8ac5d9181cc3bee2799309fc17608f45836cbafe29e815d2b32285acccf5", func := "e2e/decolaw.EdgeShallowWins", spec := "edgeShallowWins", unfollowed := true, recurses := true, apart := false }
def EdgeShallowWinsSaid : Prop := edgeShallowWinsRow.holds Try.pinned (OpenSpec.ofChange edgeShallowWinsSpec)

/-- ITS FALSE NEIGHBOUR: 'it returns false'. Refute it at one input. -/
def edgeShallowWinsWrong : ChangeSpec := { name := "edgeShallowWins", fn := fun _ => fun
  | [] => { results := [.lit (.bool false)], args := [] }
  | _ => none }
def EdgeShallowWinsWrongFalsely : Prop := edgeShallowWinsRow.holds Try.pinned (OpenSpec.ofChange edgeShallowWinsWrong)

/-- 'decolaw.EdgeFieldHides': WHATEVER THE INPUT: true; the input reads as it did. -/
def edgeFieldHidesSpec : ChangeSpec := { name := "edgeFieldHides", fn := fun _ => fun
  | [] => { results := [.lit (.bool true)], args := [] }
  | _ => none }
def edgeFieldHidesRow : OpenClaim := { program := "qxb6500371a", sum := "ee1d8ac5d9181cc3bee2799309fc17608f45836cbafe29e815d2b32285acccf5", func := "e2e/decolaw.EdgeFieldHides", spec := "edgeFieldHides", unfollowed := true, recurses := true, apart := false }
def EdgeFieldHidesSaid : Prop := edgeFieldHidesRow.holds Try.pinned (OpenSpec.ofChange edgeFieldHidesSpec)

/-- ITS FALSE NEIGHBOUR: 'it returns false'. Refute it at one input. -/
def edgeFieldHidesWrong : ChangeSpec := { name := "edgeFieldHides", fn := fun _ => fun
  | [] => { results := [.lit (.bool false)], args := [] }
  | _ => none }
def EdgeFieldHidesWrongFalsely : Prop := edgeFieldHidesRow.holds Try.pinned (OpenSpec.ofChange edgeFieldHidesWrong)

/-- 'decolaw.EdgeHidingMethod': WHATEVER THE INPUT: true; the input reads as it did. -/
def edgeHidingMethodSpec : ChangeSpec := { name := "edgeHidingMethod", fn := fun _ => fun
  | [] => { results := [.lit (.bool true)], args := [] }
  | _ => none }
def edgeHidingMethodRow : OpenClaim := { program := "qxb6500371a", sum := "ee1d8ac5d9181cc3bee2799309fc17608f45836cbafe29e815d2b32285acccf5", func := "e2e/decolaw.EdgeHidingMethod", spec := "edgeHidingMethod", unfollowed := true, recurses := true, apart := false }
def EdgeHidingMethodSaid : Prop := edgeHidingMethodRow.holds Try.pinned (OpenSpec.ofChange edgeHidingMethodSpec)

/-- ITS FALSE NEIGHBOUR: 'it returns false'. Refute it at one input. -/
def edgeHidingMethodWrong : ChangeSpec := { name := "edgeHidingMethod", fn := fun _ => fun
  | [] => { results := [.lit (.bool false)], args := [] }
  | _ => none }
def EdgeHidingMethodWrongFalsely : Prop := edgeHidingMethodRow.holds Try.pinned (OpenSpec.ofChange edgeHidingMethodWrong)

/-- 'decolaw.EdgeSameDepth': WHATEVER THE INPUT: true; the input reads as it did. -/
def edgeSameDepthSpec : ChangeSpec := { name := "edgeSameDepth", fn := fun _ => fun
  | [] => { results := [.lit (.bool true)], args := [] }
  | _ => none }
def edgeSameDepthRow : OpenClaim := { program := "qxb6500371a", sum := "ee1d8ac5d9181cc3bee2799309fc17608f45836cbafe29e815d2b32285acccf5", func := "e2e/decolaw.EdgeSameDepth", spec := "edgeSameDepth", unfollowed := true, recurses := true, apart := false }
def EdgeSameDepthSaid : Prop := edgeSameDepthRow.holds Try.pinned (OpenSpec.ofChange edgeSameDepthSpec)

/-- ITS FALSE NEIGHBOUR: 'it returns false'. Refute it at one input. -/
def edgeSameDepthWrong : ChangeSpec := { name := "edgeSameDepth", fn := fun _ => fun
  | [] => { results := [.lit (.bool false)], args := [] }
  | _ => none }
def EdgeSameDepthWrongFalsely : Prop := edgeSameDepthRow.holds Try.pinned (OpenSpec.ofChange edgeSameDepthWrong)

/-- 'decolaw.EdgeCapKept': WHATEVER THE INPUT: true; the input reads as it did. -/
def edgeCapKeptSpec : ChangeSpec := { name := "edgeCapKept", fn := fun _ => fun
  | [] => { results := [.lit (.bool true)], args := [] }
  | _ => none }
def edgeCapKeptRow : OpenClaim := { program := "qxb6500371a", sum := "ee1d8ac5d9181cc3bee2799309fc17608f45836cbafe29e815d2b32285acccf5", func := "e2e/decolaw.EdgeCapKept", spec := "edgeCapKept", unfollowed := true, recurses := true, apart := false }
def EdgeCapKeptSaid : Prop := edgeCapKeptRow.holds Try.pinned (OpenSpec.ofChange edgeCapKeptSpec)

/-- ITS FALSE NEIGHBOUR: 'it returns false'. Refute it at one input. -/
def edgeCapKeptWrong : ChangeSpec := { name := "edgeCapKept", fn := fun _ => fun
  | [] => { results := [.lit (.bool false)], args := [] }
  | _ => none }
def EdgeCapKeptWrongFalsely : Prop := edgeCapKeptRow.holds Try.pinned (OpenSpec.ofChange edgeCapKeptWrong)

/-- 'decolaw.EdgeCapLost': WHATEVER THE INPUT: true; the input reads as it did. -/
def edgeCapLostSpec : ChangeSpec := { name := "edgeCapLost", fn := fun _ => fun
  | [] => { results := [.lit (.bool true)], args := [] }
  | _ => none }
def edgeCapLostRow : OpenClaim := { program := "qxb6500371a", sum := "ee1d8ac5d9181cc3bee2799309fc17608f45836cbafe29e815d2b32285acccf5", func := "e2e/decolaw.EdgeCapLost", spec := "edgeCapLost", unfollowed := true, recurses := true, apart := false }
def EdgeCapLostSaid : Prop := edgeCapLostRow.holds Try.pinned (OpenSpec.ofChange edgeCapLostSpec)

/-- ITS FALSE NEIGHBOUR: 'it returns false'. Refute it at one input. -/
def edgeCapLostWrong : ChangeSpec := { name := "edgeCapLost", fn := fun _ => fun
  | [] => { results := [.lit (.bool false)], args := [] }
  | _ => none }
def EdgeCapLostWrongFalsely : Prop := edgeCapLostRow.holds Try.pinned (OpenSpec.ofChange edgeCapLostWrong)

/-- 'decolaw.EdgeHeldBinds': WHATEVER THE INPUT: true; the input reads as it did. -/
def edgeHeldBindsSpec : ChangeSpec := { name := "edgeHeldBinds", fn := fun _ => fun
  | [] => { results := [.lit (.bool true)], args := [] }
  | _ => none }
def edgeHeldBindsRow : OpenClaim := { program := "qxb6500371a", sum := "ee1d8ac5d9181cc3bee2799309fc17608f45836cbafe29e815d2b32285acccf5", func := "e2e/decolaw.EdgeHeldBinds", spec := "edgeHeldBinds", unfollowed := true, recurses := true, apart := false }
def EdgeHeldBindsSaid : Prop := edgeHeldBindsRow.holds Try.pinned (OpenSpec.ofChange edgeHeldBindsSpec)

/-- ITS FALSE NEIGHBOUR: 'it returns false'. Refute it at one input. -/
def edgeHeldBindsWrong : ChangeSpec := { name := "edgeHeldBinds", fn := fun _ => fun
  | [] => { results := [.lit (.bool false)], args := [] }
  | _ => none }
def EdgeHeldBindsWrongFalsely : Prop := edgeHeldBindsRow.holds Try.pinned (OpenSpec.ofChange edgeHeldBindsWrong)

/-- 'decolaw.EdgeHeldLater': WHATEVER THE INPUT: true; the input reads as it did. -/
def edgeHeldLaterSpec : ChangeSpec := { name := "edgeHeldLater", fn := fun _ => fun
  | [] => { results := [.lit (.bool true)], args := [] }
  | _ => none }
def edgeHeldLaterRow : OpenClaim := { program := "qxb6500371a", sum := "ee1d8ac5d9181cc3bee2799309fc17608f45836cbafe29e815d2b32285acccf5", func := "e2e/decolaw.EdgeHeldLater", spec := "edgeHeldLater", unfollowed := true, recurses := true, apart := false }
def EdgeHeldLaterSaid : Prop := edgeHeldLaterRow.holds Try.pinned (OpenSpec.ofChange edgeHeldLaterSpec)

/-- ITS FALSE NEIGHBOUR: 'it returns false'. Refute it at one input. -/
def edgeHeldLaterWrong : ChangeSpec := { name := "edgeHeldLater", fn := fun _ => fun
  | [] => { results := [.lit (.bool false)], args := [] }
  | _ => none }
def EdgeHeldLaterWrongFalsely : Prop := edgeHeldLaterRow.holds Try.pinned (OpenSpec.ofChange edgeHeldLaterWrong)

/-- 'decolaw.EdgeNoHold': WHATEVER THE INPUT: true; the input reads as it did. -/
def edgeNoHoldSpec : ChangeSpec := { name := "edgeNoHold", fn := fun _ => fun
  | [] => { results := [.lit (.bool true)], args := [] }
  | _ => none }
def edgeNoHoldRow : OpenClaim := { program := "qxb6500371a", sum := "ee1d8ac5d9181cc3bee2799309fc17608f45836cbafe29e815d2b32285acccf5", func := "e2e/decolaw.EdgeNoHold", spec := "edgeNoHold", unfollowed := true, recurses := true, apart := false }
def EdgeNoHoldSaid : Prop := edgeNoHoldRow.holds Try.pinned (OpenSpec.ofChange edgeNoHoldSpec)

/-- ITS FALSE NEIGHBOUR: 'it returns false'. Refute it at one input. -/
def edgeNoHoldWrong : ChangeSpec := { name := "edgeNoHold", fn := fun _ => fun
  | [] => { results := [.lit (.bool false)], args := [] }
  | _ => none }
def EdgeNoHoldWrongFalsely : Prop := edgeNoHoldRow.holds Try.pinned (OpenSpec.ofChange edgeNoHoldWrong)

/-- 'decolaw.EdgeHitAsksNot': WHATEVER THE INPUT: true; the input reads as it did. -/
def edgeHitAsksNotSpec : ChangeSpec := { name := "edgeHitAsksNot", fn := fun _ => fun
  | [] => { results := [.lit (.bool true)], args := [] }
  | _ => none }
def edgeHitAsksNotRow : OpenClaim := { program := "qxb6500371a", sum := "ee1d8ac5d9181cc3bee2799309fc17608f45836cbafe29e815d2b32285acccf5", func := "e2e/decolaw.EdgeHitAsksNot", spec := "edgeHitAsksNot", unfollowed := true, recurses := true, apart := false }
def EdgeHitAsksNotSaid : Prop := edgeHitAsksNotRow.holds Try.pinned (OpenSpec.ofChange edgeHitAsksNotSpec)

/-- ITS FALSE NEIGHBOUR: 'it returns false'. Refute it at one input. -/
def edgeHitAsksNotWrong : ChangeSpec := { name := "edgeHitAsksNot", fn := fun _ => fun
  | [] => { results := [.lit (.bool false)], args := [] }
  | _ => none }
def EdgeHitAsksNotWrongFalsely : Prop := edgeHitAsksNotRow.holds Try.pinned (OpenSpec.ofChange edgeHitAsksNotWrong)

/-- 'decolaw.EdgeHeldPutPast': WHATEVER THE INPUT: true; the input reads as it did. -/
def edgeHeldPutPastSpec : ChangeSpec := { name := "edgeHeldPutPast", fn := fun _ => fun
  | [] => { results := [.lit (.bool true)], args := [] }
  | _ => none }
def edgeHeldPutPastRow : OpenClaim := { program := "qxb6500371a", sum := "ee1d8ac5d9181cc3bee2799309fc17608f45836cbafe29e815d2b32285acccf5", func := "e2e/decolaw.EdgeHeldPutPast", spec := "edgeHeldPutPast", unfollowed := true, recurses := true, apart := false }
def EdgeHeldPutPastSaid : Prop := edgeHeldPutPastRow.holds Try.pinned (OpenSpec.ofChange edgeHeldPutPastSpec)

/-- ITS FALSE NEIGHBOUR: 'it returns false'. Refute it at one input. -/
def edgeHeldPutPastWrong : ChangeSpec := { name := "edgeHeldPutPast", fn := fun _ => fun
  | [] => { results := [.lit (.bool false)], args := [] }
  | _ => none }
def EdgeHeldPutPastWrongFalsely : Prop := edgeHeldPutPastRow.holds Try.pinned (OpenSpec.ofChange edgeHeldPutPastWrong)

/-- 'decolaw.EdgeHeldPutLimit': WHATEVER THE INPUT: true; the input reads as it did. -/
def edgeHeldPutLimitSpec : ChangeSpec := { name := "edgeHeldPutLimit", fn := fun _ => fun
  | [] => { results := [.lit (.bool true)], args := [] }
  | _ => none }
def edgeHeldPutLimitRow : OpenClaim := { program := "qxb6500371a", sum := "ee1d8ac5d9181cc3bee2799309fc17608f45836cbafe29e815d2b32285acccf5", func := "e2e/decolaw.EdgeHeldPutLimit", spec := "edgeHeldPutLimit", unfollowed := true, recurses := true, apart := false }
def EdgeHeldPutLimitSaid : Prop := edgeHeldPutLimitRow.holds Try.pinned (OpenSpec.ofChange edgeHeldPutLimitSpec)

/-- ITS FALSE NEIGHBOUR: 'it returns false'. Refute it at one input. -/
def edgeHeldPutLimitWrong : ChangeSpec := { name := "edgeHeldPutLimit", fn := fun _ => fun
  | [] => { results := [.lit (.bool false)], args := [] }
  | _ => none }
def EdgeHeldPutLimitWrongFalsely : Prop := edgeHeldPutLimitRow.holds Try.pinned (OpenSpec.ofChange edgeHeldPutLimitWrong)

/-- 'decolaw.EdgeBothResults': WHATEVER THE INPUT: true; the input reads as it did. -/
def edgeBothResultsSpec : ChangeSpec := { name := "edgeBothResults", fn := fun _ => fun
  | [] => { results := [.lit (.bool true)], args := [] }
  | _ => none }
def edgeBothResultsRow : OpenClaim := { program := "qxb6500371a", sum := "ee1d8ac5d9181cc3bee2799309fc17608f45836cbafe29e815d2b32285acccf5", func := "e2e/decolaw.EdgeBothResults", spec := "edgeBothResults", unfollowed := true, recurses := true, apart := false }
def EdgeBothResultsSaid : Prop := edgeBothResultsRow.holds Try.pinned (OpenSpec.ofChange edgeBothResultsSpec)

/-- ITS FALSE NEIGHBOUR: 'it returns false'. Refute it at one input. -/
def edgeBothResultsWrong : ChangeSpec := { name := "edgeBothResults", fn := fun _ => fun
  | [] => { results := [.lit (.bool false)], args := [] }
  | _ => none }
def EdgeBothResultsWrongFalsely : Prop := edgeBothResultsRow.holds Try.pinned (OpenSpec.ofChange edgeBothResultsWrong)

/-- 'decolaw.EdgeSince': WHATEVER THE INPUT: true; the input reads as it did. -/
def edgeSinceSpec : ChangeSpec := { name := "edgeSince", fn := fun _ => fun
  | [] => { results := [.lit (.bool true)], args := [] }
  | _ => none }
def edgeSinceRow : OpenClaim := { program := "qxb6500371a", sum := "ee1d8ac5d9181cc3bee2799309fc17608f45836cbafe29e815d2b32285acccf5", func := "e2e/decolaw.EdgeSince", spec := "edgeSince", unfollowed := true, recurses := true, apart := false }
def EdgeSinceSaid : Prop := edgeSinceRow.holds Try.pinned (OpenSpec.ofChange edgeSinceSpec)

/-- ITS FALSE NEIGHBOUR: 'it returns false'. Refute it at one input. -/
def edgeSinceWrong : ChangeSpec := { name := "edgeSince", fn := fun _ => fun
  | [] => { results := [.lit (.bool false)], args := [] }
  | _ => none }
def EdgeSinceWrongFalsely : Prop := edgeSinceRow.holds Try.pinned (OpenSpec.ofChange edgeSinceWrong)

/-- 'decolaw.EdgePromotedField': WHATEVER THE INPUT: true; the input reads as it did. -/
def edgePromotedFieldSpec : ChangeSpec := { name := "edgePromotedField", fn := fun _ => fun
  | [] => { results := [.lit (.bool true)], args := [] }
  | _ => none }
def edgePromotedFieldRow : OpenClaim := { program := "qxb6500371a", sum := "ee1d8ac5d9181cc3bee2799309fc17608f45836cbafe29e815d2b32285acccf5", func := "e2e/decolaw.EdgePromotedField", spec := "edgePromotedField", unfollowed := true, recurses := true, apart := false }
def EdgePromotedFieldSaid : Prop := edgePromotedFieldRow.holds Try.pinned (OpenSpec.ofChange edgePromotedFieldSpec)

/-- ITS FALSE NEIGHBOUR: 'it returns false'. Refute it at one input. -/
def edgePromotedFieldWrong : ChangeSpec := { name := "edgePromotedField", fn := fun _ => fun
  | [] => { results := [.lit (.bool false)], args := [] }
  | _ => none }
def EdgePromotedFieldWrongFalsely : Prop := edgePromotedFieldRow.holds Try.pinned (OpenSpec.ofChange edgePromotedFieldWrong)

/-- 'decolaw.EdgeValueReceiver': WHATEVER THE INPUT: true; the input reads as it did. -/
def edgeValueReceiverSpec : ChangeSpec := { name := "edgeValueReceiver", fn := fun _ => fun
  | [] => { results := [.lit (.bool true)], args := [] }
  | _ => none }
def edgeValueReceiverRow : OpenClaim := { program := "qxb6500371a", sum := "ee1d8ac5d9181cc3bee2799309fc17608f45836cbafe29e815d2b32285acccf5", func := "e2e/decolaw.EdgeValueReceiver", spec := "edgeValueReceiver", unfollowed := true, recurses := true, apart := false }
def EdgeValueReceiverSaid : Prop := edgeValueReceiverRow.holds Try.pinned (OpenSpec.ofChange edgeValueReceiverSpec)

/-- ITS FALSE NEIGHBOUR: 'it returns false'. Refute it at one input. -/
def edgeValueReceiverWrong : ChangeSpec := { name := "edgeValueReceiver", fn := fun _ => fun
  | [] => { results := [.lit (.bool false)], args := [] }
  | _ => none }
def EdgeValueReceiverWrongFalsely : Prop := edgeValueReceiverRow.holds Try.pinned (OpenSpec.ofChange edgeValueReceiverWrong)

/-- 'decolaw.EdgeIdentity': WHATEVER THE INPUT: true; the input reads as it did. -/
def edgeIdentitySpec : ChangeSpec := { name := "edgeIdentity", fn := fun _ => fun
  | [] => { results := [.lit (.bool true)], args := [] }
  | _ => none }
def edgeIdentityRow : OpenClaim := { program := "qxb6500371a", sum := "ee1d8ac5d9181cc3bee2799309fc17608f45836cbafe29e815d2b32285acccf5", func := "e2e/decolaw.EdgeIdentity", spec := "edgeIdentity", unfollowed := true, recurses := true, apart := false }
def EdgeIdentitySaid : Prop := edgeIdentityRow.holds Try.pinned (OpenSpec.ofChange edgeIdentitySpec)

/-- ITS FALSE NEIGHBOUR: 'it returns false'. Refute it at one input. -/
def edgeIdentityWrong : ChangeSpec := { name := "edgeIdentity", fn := fun _ => fun
  | [] => { results := [.lit (.bool false)], args := [] }
  | _ => none }
def EdgeIdentityWrongFalsely : Prop := edgeIdentityRow.holds Try.pinned (OpenSpec.ofChange edgeIdentityWrong)

/-- 'decolaw.EdgeConv': WHATEVER THE INPUT: true; the input reads as it did. -/
def edgeConvSpec : ChangeSpec := { name := "edgeConv", fn := fun _ => fun
  | [] => { results := [.lit (.bool true)], args := [] }
  | _ => none }
def edgeConvRow : OpenClaim := { program := "qxb6500371a", sum := "ee1d8ac5d9181cc3bee2799309fc17608f45836cbafe29e815d2b32285acccf5", func := "e2e/decolaw.EdgeConv", spec := "edgeConv", unfollowed := true, recurses := true, apart := false }
def EdgeConvSaid : Prop := edgeConvRow.holds Try.pinned (OpenSpec.ofChange edgeConvSpec)

/-- ITS FALSE NEIGHBOUR: 'it returns false'. Refute it at one input. -/
def edgeConvWrong : ChangeSpec := { name := "edgeConv", fn := fun _ => fun
  | [] => { results := [.lit (.bool false)], args := [] }
  | _ => none }
def EdgeConvWrongFalsely : Prop := edgeConvRow.holds Try.pinned (OpenSpec.ofChange edgeConvWrong)

/-- 'decolaw.EdgeForgets': WHATEVER THE INPUT: true; the input reads as it did. -/
def edgeForgetsSpec : ChangeSpec := { name := "edgeForgets", fn := fun _ => fun
  | [] => { results := [.lit (.bool true)], args := [] }
  | _ => none }
def edgeForgetsRow : OpenClaim := { program := "qxb6500371a", sum := "ee1d8ac5d9181cc3bee2799309fc17608f45836cbafe29e815d2b32285acccf5", func := "e2e/decolaw.EdgeForgets", spec := "edgeForgets", unfollowed := true, recurses := true, apart := false }
def EdgeForgetsSaid : Prop := edgeForgetsRow.holds Try.pinned (OpenSpec.ofChange edgeForgetsSpec)

/-- ITS FALSE NEIGHBOUR: 'it returns false'. Refute it at one input. -/
def edgeForgetsWrong : ChangeSpec := { name := "edgeForgets", fn := fun _ => fun
  | [] => { results := [.lit (.bool false)], args := [] }
  | _ => none }
def EdgeForgetsWrongFalsely : Prop := edgeForgetsRow.holds Try.pinned (OpenSpec.ofChange edgeForgetsWrong)

/-- 'decolaw.EdgeClear': WHATEVER THE INPUT: true; the input reads as it did. -/
def edgeClearSpec : ChangeSpec := { name := "edgeClear", fn := fun _ => fun
  | [] => { results := [.lit (.bool true)], args := [] }
  | _ => none }
def edgeClearRow : OpenClaim := { program := "qxb6500371a", sum := "ee1d8ac5d9181cc3bee2799309fc17608f45836cbafe29e815d2b32285acccf5", func := "e2e/decolaw.EdgeClear", spec := "edgeClear", unfollowed := true, recurses := true, apart := false }
def EdgeClearSaid : Prop := edgeClearRow.holds Try.pinned (OpenSpec.ofChange edgeClearSpec)

/-- ITS FALSE NEIGHBOUR: 'it returns false'. Refute it at one input. -/
def edgeClearWrong : ChangeSpec := { name := "edgeClear", fn := fun _ => fun
  | [] => { results := [.lit (.bool false)], args := [] }
  | _ => none }
def EdgeClearWrongFalsely : Prop := edgeClearRow.holds Try.pinned (OpenSpec.ofChange edgeClearWrong)

/-- 'decolaw.EdgeBase': WHATEVER THE INPUT: true; the input reads as it did. -/
def edgeBaseSpec : ChangeSpec := { name := "edgeBase", fn := fun _ => fun
  | [] => { results := [.lit (.bool true)], args := [] }
  | _ => none }
def edgeBaseRow : OpenClaim := { program := "qxb6500371a", sum := "ee1d8ac5d9181cc3bee2799309fc17608f45836cbafe29e815d2b32285acccf5", func := "e2e/decolaw.EdgeBase", spec := "edgeBase", unfollowed := true, recurses := true, apart := false }
def EdgeBaseSaid : Prop := edgeBaseRow.holds Try.pinned (OpenSpec.ofChange edgeBaseSpec)

/-- ITS FALSE NEIGHBOUR: 'it returns false'. Refute it at one input. -/
def edgeBaseWrong : ChangeSpec := { name := "edgeBase", fn := fun _ => fun
  | [] => { results := [.lit (.bool false)], args := [] }
  | _ => none }
def EdgeBaseWrongFalsely : Prop := edgeBaseRow.holds Try.pinned (OpenSpec.ofChange edgeBaseWrong)

/-- 'decolaw.EdgeApart': WHATEVER THE INPUT: true; the input reads as it did. -/
def edgeApartSpec : ChangeSpec := { name := "edgeApart", fn := fun _ => fun
  | [] => { results := [.lit (.bool true)], args := [] }
  | _ => none }
def edgeApartRow : OpenClaim := { program := "qxb6500371a", sum := "ee1d8ac5d9181cc3bee2799309fc17608f45836cbafe29e815d2b32285acccf5", func := "e2e/decolaw.EdgeApart", spec := "edgeApart", unfollowed := true, recurses := true, apart := false }
def EdgeApartSaid : Prop := edgeApartRow.holds Try.pinned (OpenSpec.ofChange edgeApartSpec)

/-- ITS FALSE NEIGHBOUR: 'it returns false'. Refute it at one input. -/
def edgeApartWrong : ChangeSpec := { name := "edgeApart", fn := fun _ => fun
  | [] => { results := [.lit (.bool false)], args := [] }
  | _ => none }
def EdgeApartWrongFalsely : Prop := edgeApartRow.holds Try.pinned (OpenSpec.ofChange edgeApartWrong)

end Rows
end Go.Proofs.Qxb6500371a
