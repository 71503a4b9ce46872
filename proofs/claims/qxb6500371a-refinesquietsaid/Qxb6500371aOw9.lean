import Derived.Test.Qxb6500371aOw2
import Derived.Test.Qxb6500371aOw3
import Derived.Test.Qxb6500371aOw4
import Derived.Test.Qxb6500371aOw5
import Derived.Test.Qxb6500371aOw6
import Derived.Test.Qxb6500371aOw7
import Derived.Test.Qxb6500371aOw8
set_option linter.unusedVariables false
set_option linter.unusedSimpArgs false
namespace Go.Proofs.Qxb6500371a.W
open Go.RowKit Go.Maps

set_option maxHeartbeats 4000000 in
set_option maxRecDepth 4000 in
theorem ow_none {w : World} {pg : Nat} {g : GS} (h : GhAt w pg g) (o : OpD) (k1 : ¬ o.kind = 1) (k2 : ¬ o.kind = 2) (k3 : ¬ o.kind = 3) (k4 : ¬ o.kind = 4) (k12 : ¬ o.kind = 12) (k5 : ¬ o.kind = 5) (k6 : ¬ o.kind = 6) (k7 : ¬ o.kind = 7) (k8 : ¬ o.kind = 8) (k14 : ¬ o.kind = 14) (k9 : ¬ o.kind = 9) (k13 : ¬ o.kind = 13) (k11 : ¬ o.kind = 11) :
    Calls Try.prog 46 #[pt pg, opV o] w fun x w' => x = .returned (ansV (owesG g o).1) ∧ GStp pg (owesG g o).2 w w' := by
  have e : owesG g o = (⟨0, 0, 0, ⟨#[]⟩⟩, g) := by simp only [owesG, if_neg k1, if_neg k2, if_neg k3, if_neg k4, if_neg k12, if_neg k5, if_neg k6, if_neg k7, if_neg k8, if_neg k14, if_neg k9, if_neg k13, if_neg k11]
  have E : Hid (owesG g o = (⟨0, 0, 0, ⟨#[]⟩⟩, g)) := e
  obtain ⟨kind, a, b, c, s, t⟩ := o
  simp only at k1 k2 k3 k4 k12 k5 k6 k7 k8 k14 k9 k13 k11
  have j1 : (kind == 1) = false := by simpa using k1
  have j2 : (kind == 2) = false := by simpa using k2
  have j3 : (kind == 3) = false := by simpa using k3
  have j4 : (kind == 4) = false := by simpa using k4
  have j12 : (kind == 12) = false := by simpa using k12
  have j5 : (kind == 5) = false := by simpa using k5
  have j6 : (kind == 6) = false := by simpa using k6
  have j7 : (kind == 7) = false := by simpa using k7
  have j8 : (kind == 8) = false := by simpa using k8
  have j14 : (kind == 14) = false := by simpa using k14
  have j9 : (kind == 9) = false := by simpa using k9
  have j13 : (kind == 13) = false := by simpa using k13
  have j11 : (kind == 11) = false := by simpa using k11
  have HP := pre_doW h ⟨kind, a, b, c, s, t⟩
  have hin : (0 ≤ a ∧ a < 4) ∨ a < 0 ∨ 4 ≤ a := by omega
  clear h e k1 k2 k3 k4 k12 k5 k6 k7 k8 k14 k9 k13 k11
  unfold opV
  go_enter Try.func46, Try.ntmps46
  rcases hin with hin | hin | hin
  all_goals
    go_upto_region 5 with fail
    change Code.wp Try.prog _ _ _ (doW w ⟨kind, a, b, c, s, t⟩)
    generalize doW w ⟨kind, a, b, c, s, t⟩ = W at HP ⊢
    have HH : Hid (Pre W w pg g ⟨kind, a, b, c, s, t⟩) := HP
    obtain ⟨a0, a1, a2, a3, r0, r1, r2, r3, fa, fr⟩ := HP.pst.facts
    clear HP
    go_wp2
    refine ow_end HH.out.pst (Chg.refl _ _) rfl fun w3 h3 => ?_
    rw [E.out]
    exact ⟨rfl, h3⟩

theorem owes_calls {w : World} {pg : Nat} {g : GS} (h : GhAt w pg g) (hn : g.n ≤ 4) (hh : g.heldOk) (o : OpD) :
    Calls Try.prog 46 #[pt pg, opV o] w fun x w' => x = .returned (ansV (owesG g o).1) ∧ GStp pg (owesG g o).2 w w' := by
  by_cases k1 : o.kind = 1
  · exact ow_wrap h hn hh o k1
  by_cases k2 : o.kind = 2
  · exact ow_get h hn hh o k2
  by_cases k3 : o.kind = 3
  · exact ow_put h hn o k3
  by_cases k4 : o.kind = 4
  · exact ow_del h hn hh o k4
  by_cases k12 : o.kind = 12
  · exact ow_clear h hn hh o k12
  by_cases k5 : o.kind = 5
  · exact ow_len h hn hh o k5
  by_cases k6 : o.kind = 6
  · exact ow_name h hn hh o k6
  by_cases k7 : o.kind = 7
  · exact ow_hits h hn hh o k7
  by_cases k8 : o.kind = 8
  · exact ow_hold h hn hh o k8
  by_cases k14 : o.kind = 14
  · exact ow_since h hn hh o k14
  by_cases k9 : o.kind = 9
  · exact ow_hget h hn hh o k9
  by_cases k13 : o.kind = 13
  · exact ow_hput h hn hh o k13
  by_cases k11 : o.kind = 11
  · exact ow_check h hn hh o k11
  exact ow_none h o k1 k2 k3 k4 k12 k5 k6 k7 k8 k14 k9 k13 k11
end Go.Proofs.Qxb6500371a.W
