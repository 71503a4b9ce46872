import Derived.Test.Qxb6500374aEdgeChainProof
import Derived.Test.Qxb6500374aEdgeLoneNodeProof
import Derived.Test.Qxb6500374aEdgeSelfLoopProof
import Derived.Test.Qxb6500374aEdgeCycleProof
import Derived.Test.Qxb6500374aEdgeEveryOtherProof
import Derived.Test.Qxb6500374aEdgeNoTwinThereProof
import Derived.Test.Qxb6500374aEdgeNaNPilesUpProof
import Derived.Test.Qxb6500374aEdgeOneNumberOneKeyProof
import Derived.Test.Qxb6500374aEdgeNaNFillsTheHistogramProof
import Derived.Test.Qxb6500374aEdgeFullButHeldProof
import Derived.Test.Qxb6500374aEdgeTwoLevelsProof
import Derived.Test.Qxb6500374aEdgePruneInHandProof
import Derived.Test.Qxb6500374aEdgeShowWholeProof
import Derived.Test.Qxb6500374aEdgeApartProof
set_option linter.unusedVariables false
set_option linter.unusedSimpArgs false
namespace Go.Proofs.Qxb6500374a.W
open Go.RowKit Go.Maps

theorem Chg.ofBelow {w0 w w' : World} (h0 : Chg [] w0 w) (h : Below w.heap.size w w') : Chg [] w0 w' :=
  h0.trans ⟨h.os, h.tape, h.output, h.size, fun k hk _ => h.block k hk⟩

set_option maxHeartbeats 4000000 in
set_option maxRecDepth 4000 in
theorem edges_calls {ap : Option Addr} {al ac : Nat} (w : World) : Calls Try.prog 17 #[.slice ap al ac] w fun x w' => x = .returned (.bool true) ∧ Chg [] w w' := by
  go_enter Try.func17, Try.ntmps17
  have HC0 : Hid (Chg [] w w) := Chg.refl _ _
  go_wp2_with fail
  refine (edgeChain.walk ap al ac w).mono ?_
  rintro x w1 ⟨rfl, hb⟩
  have HC1 : Hid (Chg [] w w1) := HC0.out.ofBelow hb
  clear hb HC0
  go_wp2_with fail
  refine (edgeLoneNode.walk ap al ac w1).mono ?_
  rintro x w2 ⟨rfl, hb⟩
  have HC2 : Hid (Chg [] w w2) := HC1.out.ofBelow hb
  clear hb HC1
  go_wp2_with fail
  refine (edgeSelfLoop.walk ap al ac w2).mono ?_
  rintro x w3 ⟨rfl, hb⟩
  have HC3 : Hid (Chg [] w w3) := HC2.out.ofBelow hb
  clear hb HC2
  go_wp2_with fail
  refine (edgeCycle.walk ap al ac w3).mono ?_
  rintro x w4 ⟨rfl, hb⟩
  have HC4 : Hid (Chg [] w w4) := HC3.out.ofBelow hb
  clear hb HC3
  go_wp2_with fail
  refine (edgeEveryOther.walk ap al ac w4).mono ?_
  rintro x w5 ⟨rfl, hb⟩
  have HC5 : Hid (Chg [] w w5) := HC4.out.ofBelow hb
  clear hb HC4
  go_wp2_with fail
  refine (edgeNoTwinThere.walk ap al ac w5).mono ?_
  rintro x w6 ⟨rfl, hb⟩
  have HC6 : Hid (Chg [] w w6) := HC5.out.ofBelow hb
  clear hb HC5
  go_wp2_with fail
  refine (edgeNaNPilesUp.walk ap al ac w6).mono ?_
  rintro x w7 ⟨rfl, hb⟩
  have HC7 : Hid (Chg [] w w7) := HC6.out.ofBelow hb
  clear hb HC6
  go_wp2_with fail
  refine (edgeOneNumberOneKey.walk ap al ac w7).mono ?_
  rintro x w8 ⟨rfl, hb⟩
  have HC8 : Hid (Chg [] w w8) := HC7.out.ofBelow hb
  clear hb HC7
  go_wp2_with fail
  refine (edgeNaNFillsTheHistogram.walk ap al ac w8).mono ?_
  rintro x w9 ⟨rfl, hb⟩
  have HC9 : Hid (Chg [] w w9) := HC8.out.ofBelow hb
  clear hb HC8
  go_wp2_with fail
  refine (edgeFullButHeld.walk ap al ac w9).mono ?_
  rintro x w10 ⟨rfl, hb⟩
  have HC10 : Hid (Chg [] w w10) := HC9.out.ofBelow hb
  clear hb HC9
  go_wp2_with fail
  refine (edgeTwoLevels.walk ap al ac w10).mono ?_
  rintro x w11 ⟨rfl, hb⟩
  have HC11 : Hid (Chg [] w w11) := HC10.out.ofBelow hb
  clear hb HC10
  go_wp2_with fail
  refine (edgePruneInHand.walk ap al ac w11).mono ?_
  rintro x w12 ⟨rfl, hb⟩
  have HC12 : Hid (Chg [] w w12) := HC11.out.ofBelow hb
  clear hb HC11
  go_wp2_with fail
  refine (edgeShowWhole.walk ap al ac w12).mono ?_
  rintro x w13 ⟨rfl, hb⟩
  have HC13 : Hid (Chg [] w w13) := HC12.out.ofBelow hb
  clear hb HC12
  go_wp2_with fail
  refine (edgeApart.walk ap al ac w13).mono ?_
  rintro x w14 ⟨rfl, hb⟩
  have HC14 : Hid (Chg [] w w14) := HC13.out.ofBelow hb
  clear hb HC13
  go_wp2
  go_ret
  exact ⟨rfl, HC14.out⟩
end Go.Proofs.Qxb6500374a.W
