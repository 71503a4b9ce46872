import Derived.Test.Qxb6500374aWn
import Derived.Test.Qxb6500374aWo
import Derived.Test.Qxb6500374aWp
import Derived.BigRegion
set_option linter.unusedVariables false
set_option linter.unusedSimpArgs false
namespace Go.Proofs.Qxb6500374a.W
open Go.RowKit Go.Maps

theorem want_calls {w : World} {pg pE pH pT pK : Nat} {S : WS} (h : GhAt w pg pE pH pT pK S) (ho : S.ok) (hcap : ∀ j, j < 7 → S.cn j < 4611686018427387904) (o : OpD) : Calls Try.prog 50 #[pt pg, opV o] w (GrP pg pE pH pT pK S o w) := by
  by_cases k1 : o.kind = 1
  · exact wn_1 h ho hcap o k1
  by_cases k2 : o.kind = 2
  · exact wn_2 h ho hcap o k2
  by_cases k3 : o.kind = 3
  · exact wn_3 h ho hcap o k3
  by_cases k4 : o.kind = 4
  · exact wn_4 h ho hcap o k4
  by_cases k5 : o.kind = 5
  · exact wn_5 h ho hcap o k5
  by_cases k6 : o.kind = 6
  · exact wn_6 h ho hcap o k6
  by_cases k7 : o.kind = 7
  · exact wn_7 h ho hcap o k7
  by_cases k8 : o.kind = 8
  · exact wn_8 h ho hcap o k8
  by_cases k9 : o.kind = 9
  · exact wn_9 h ho hcap o k9
  by_cases k10 : o.kind = 10
  · exact wn_10 h ho hcap o k10
  by_cases k13 : o.kind = 13
  · exact wn_13 h ho hcap o k13
  by_cases k11 : o.kind = 11
  · exact wn_11 h ho hcap o k11
  by_cases k12 : o.kind = 12
  · exact wn_12 h ho hcap o k12
  exact wn_none h ho hcap o k1 k2 k3 k4 k5 k6 k7 k8 k9 k10 k13 k11 k12
end Go.Proofs.Qxb6500374a.W
