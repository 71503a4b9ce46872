import Derived.Test.Qxb6500374aRtA
import Derived.Test.Qxb6500374aRtB
import Derived.Test.Qxb6500374aRtC
import Derived.BigRegion
set_option linter.unusedVariables false
set_option linter.unusedSimpArgs false
namespace Go.Proofs.Qxb6500374a.W
open Go.RowKit Go.Maps

theorem rates_calls {w : World} {pg pE pH pT pK : Nat} {S : WS} (h : GhAt w pg pE pH pT pK S) (ho : S.ok) (hcap : ∀ j, j < 7 → S.cn j < 4611686018427387904) (o : OpD) (hk : o.kind = 5 ∨ o.kind = 6 ∨ o.kind = 7) : Calls Try.prog 57 #[pt pg, opV o] w (GrP pg pE pH pT pK S o w) := by
  by_cases h1 : o.a < 0
  · exact rt_bad1 h ho o hk h1
  by_cases h2 : o.b < o.a
  · exact rt_bad2 h ho o hk (by omega) h2
  by_cases h3 : 4 < o.b
  · exact rt_bad3 h ho o hk (by omega) (by omega) h3
  have hr : isR o.a o.b = true := by unfold isR; simp; omega
  by_cases hz : o.b = 0
  · rcases hk with e | e | e
    · by_cases hf : 10 ≤ nums S.cn + S.nn
      · exact rt_n1 h ho o hcap e hr hz hf
      · exact rt_n2 h ho o hcap e hr hz hf
    · exact rt_z6 h ho o hcap e hr hz
    · exact rt_z7 h ho o hcap e hr hz
  · have hz' : 0 < o.b := by omega
    rcases hk with e | e | e
    · exact rt_n5 h ho o hcap e hr hz'
    · exact rt_n6 h ho o hcap e hr hz'
    · exact rt_n7 h ho o hcap e hr hz'
end Go.Proofs.Qxb6500374a.W
