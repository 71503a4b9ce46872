import Derived.Test.Qxb6500374aRu
import Derived.Test.Qxb6500374aSn
import Derived.BigRegion
set_option linter.unusedVariables false
set_option linter.unusedSimpArgs false
namespace Go.Proofs.Qxb6500374a.W
open Go.RowKit Go.Maps

set_option maxHeartbeats 8000000 in
set_option maxRecDepth 4000 in
theorem wn_none {w : World} {pg pE pH pT pK : Nat} {S : WS} (h : GhAt w pg pE pH pT pK S) (ho : S.ok) (hcap : ∀ j, j < 7 → S.cn j < 4611686018427387904) (o : OpD) (k1 : ¬ o.kind = 1) (k2 : ¬ o.kind = 2) (k3 : ¬ o.kind = 3) (k4 : ¬ o.kind = 4) (k5 : ¬ o.kind = 5) (k6 : ¬ o.kind = 6) (k7 : ¬ o.kind = 7) (k8 : ¬ o.kind = 8) (k9 : ¬ o.kind = 9) (k10 : ¬ o.kind = 10) (k13 : ¬ o.kind = 13) (k11 : ¬ o.kind = 11) (k12 : ¬ o.kind = 12) : Calls Try.prog 50 #[pt pg, opV o] w (GrP pg pE pH pT pK S o w) := by
  have H : Hid (GhAt w pg pE pH pT pK S) := h
  have HO : Hid S.ok := ho
  have HCAP : Hid (∀ j, j < 7 → S.cn j < 4611686018427387904) := hcap
  have EA : Hid (ansD S o = ⟨0, 0, 0, ⟨#[]⟩⟩ ∧ stepD S o 0 = S) := by
    show _ ∧ _
    exact ⟨by simp [ansD, k1, k2, k3, k4, k5, k6, k7, k8, k9, k10, k13, k11, k12], by simp [stepD, k1, k2, k3, k4, k5, k6, k7, k8, k9, k10, k13, k11, k12]⟩
  obtain ⟨kind, a, b, c, s, t⟩ := o
  simp only at k1 k2 k3 k4 k5 k6 k7 k8 k9 k10 k13 k11 k12
  have j1 : (kind == 1) = false := by simpa using k1
  have j2 : (kind == 2) = false := by simpa using k2
  have j3 : (kind == 3) = false := by simpa using k3
  have j4 : (kind == 4) = false := by simpa using k4
  have j5 : (kind == 5) = false := by simpa using k5
  have j6 : (kind == 6) = false := by simpa using k6
  have j7 : (kind == 7) = false := by simpa using k7
  have j8 : (kind == 8) = false := by simpa using k8
  have j9 : (kind == 9) = false := by simpa using k9
  have j10 : (kind == 10) = false := by simpa using k10
  have j13 : (kind == 13) = false := by simpa using k13
  have j11 : (kind == 11) = false := by simpa using k11
  have j12 : (kind == 12) = false := by simpa using k12
  clear h ho hcap k1 k2 k3 k4 k5 k6 k7 k8 k9 k10 k13 k11 k12
  unfold opV
  go_enter Try.func50, Try.ntmps50
  go_wp2
  exact gr_end0 (o := ⟨kind, a, b, c, s, t⟩) rfl rfl H.out rfl EA.out.1 EA.out.2

end Go.Proofs.Qxb6500374a.W
