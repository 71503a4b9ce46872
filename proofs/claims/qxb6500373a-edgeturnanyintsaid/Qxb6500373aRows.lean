/-
  No cell of these rows narrows 'for every input' (looked for: loops, veiled, ifaces, maps, wideKeys, modest, calm, conditions, laid).
  DERIVED. THE GIVEN ROWS OF THIS SEAT. 1 by the template 'for every input the law returns true; each argument reads behind the call as it read before'; 0 by the template 'total and deterministic' (their statements: Qxb6500373aTotals.lean).
  GIVEN WITH THE SEED: the statements are not yours to turn. If you find one false, say at which input.
  Laid BY PROGRAM, IN A SANDBOX (cutbox-rows.mjs): the forced cells as the released guide's own fill.sh prints them over the translation c7eac75e22c86453… (all of the seat's roots in one cut). By AI agents, Wed Nov 11 2026. No macro, syntax, notation, axiom, sorry.
-/
import Derived.Test.Qxb6500373aChecked
import GoSem.Claim
import GoSem.ClaimJoined
import GoSem.ClaimMapViews
import Derived.JoinedTies
import Derived.KernelRfl
namespace Go.Proofs.Qxb6500373a
/- THE CELL 'sum', in the pinned program and in every row, IS THE sha256 OF THE DUMP (.gsa) THAT Qxb6500373aProg.lean LOADS. Nothing in Lean hashes anything: it is a label: what it is worth is what the hold of that sum in a sandbox is worth. -/
noncomputable def Try.pinned : Pinned := { name := "qxb6500373a", sum := "c7eac75e22c864532319eb8ffb64030aee8be7ae889189a49a9f42f8f5deaa88", checked := Try.checked }
namespace Rows
def none {H : Type} : Left H := { results := [], args := [] }

/-- 'banklaw.EdgeTurnAnyInt': WHATEVER THE INPUT: true; the input reads as it did. -/
def edgeTurnAnyIntSpec : ChangeSpec := { name := "edgeTurnAnyInt", fn := fun _ => fun
  | [] => { results := [.lit (.bool true)], args := [] }
  | _ => none }
def edgeTurnAnyIntRow : OpenClaim := { program := "qxb6500373a", sum := "c7eac75e22c864532319eb8ffb64030aee8be7ae889189a49a9f42f8f5deaa88", func := "e2e/banklaw.EdgeTurnAnyInt", spec := "edgeTurnAnyInt", apart := false }
def EdgeTurnAnyIntSaid : Prop := edgeTurnAnyIntRow.holds Try.pinned (OpenSpec.ofChange edgeTurnAnyIntSpec)

/-- ITS FALSE NEIGHBOUR: 'it returns false'. Refute it at one input. -/
def edgeTurnAnyIntWrong : ChangeSpec := { name := "edgeTurnAnyInt", fn := fun _ => fun
  | [] => { results := [.lit (.bool false)], args := [] }
  | _ => none }
def EdgeTurnAnyIntWrongFalsely : Prop := edgeTurnAnyIntRow.holds Try.pinned (OpenSpec.ofChange edgeTurnAnyIntWrong)

end Rows
end Go.Proofs.Qxb6500373a
