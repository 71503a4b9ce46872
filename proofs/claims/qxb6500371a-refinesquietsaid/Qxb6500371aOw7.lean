import Derived.Test.Qxb6500371aOw
set_option linter.unusedVariables false
set_option linter.unusedSimpArgs false
namespace Go.Proofs.Qxb6500371a.W
open Go.RowKit Go.Maps

def zeroTo (m : MS) (j : Nat) : MS := ⟨fun i => if i < j then false else m.has i, fun i => if i < j then 0 else m.val i⟩
theorem zeroTo_step (m : MS) (j : Nat) : ((zeroTo m j).setHas j false).setVal j 0 = zeroTo m (j + 1) := by
  unfold zeroTo MS.setHas MS.setVal
  congr 1
  · funext i
    by_cases h : i = j
    · simp [h]
    · have : (i < j + 1) = (i < j) := by simp; omega
      simp [h, this]
  · funext i
    by_cases h : i = j
    · simp [h]
    · have : (i < j + 1) = (i < j) := by simp; omega
      simp [h, this]
theorem zeroTo_zero (m : MS) : zeroTo m 0 = m := by simp [zeroTo]
theorem ghCells_zero (g : GS) : ghCells { g with m := zeroTo g.m 4 } = ghCells { g with m := zeroM } := by simp [ghCells, zeroTo, zeroM]

set_option maxHeartbeats 4000000 in
set_option maxRecDepth 4000 in
theorem ow_clear {w : World} {pg : Nat} {g : GS} (h : GhAt w pg g) (hn : g.n ≤ 4) (hh : g.heldOk) (o : OpD) (hk : o.kind = 12) :
    Calls Try.prog 46 #[pt pg, opV o] w fun x w' => x = .returned (ansV (owesG g o).1) ∧ GStp pg (owesG g o).2 w w' := by
  obtain ⟨kind, a, b, c, s, t⟩ := o
  simp only at hk
  subst hk
  have HP := pre_doW h ⟨12, a, b, c, s, t⟩
  unfold opV
  have hin : (0 ≤ a ∧ a < 4) ∨ a < 0 ∨ 4 ≤ a := by omega
  clear h
  go_enter Try.func46, Try.ntmps46
  rcases hin with hin | hin | hin
  all_goals
    go_upto_region 5 with fail
    change Code.wp Try.prog _ _ _ (doW w ⟨12, a, b, c, s, t⟩)
    generalize doW w ⟨12, a, b, c, s, t⟩ = W at HP ⊢
    have HH : Hid (Pre W w pg g ⟨12, a, b, c, s, t⟩) := HP
    obtain ⟨a0, a1, a2, a3, r0, r1, r2, r3, fa, fr⟩ := HP.pst.facts
    have c8 : W.cell? ⟨pg, 8, none⟩ = some (.int .i64 g.n) := cell_of HP.gh rfl
    have fg : ∀ i, W.frozen? ⟨pg, i, none⟩ = false := fun _ => frozen_of HP.gh
    clear HP
    go_wp2_with fail
    clear a0 a1 a2 a3 r0 r1 r2 r3 fa fr fg c8
    go_loopw [8] (fun v8 wr => ∃ j : Nat, j ≤ 4 ∧ v8 = .int .i64 j ∧ Pst wr w pg { g with m := zeroTo g.m j }) (fun v8 _ => (4 - intOf v8).toNat)
    case atStart => exact ⟨0, by omega, rfl, by rw [zeroTo_zero]; exact HH.out.pst⟩
    case round =>
      obtain ⟨j, hj, rfl, hp⟩ := hrel
      have HP : Hid (Pst wr w pg { g with m := zeroTo g.m j }) := hp
      obtain ⟨a0, a1, a2, a3, r0, r1, r2, r3, fa, fr⟩ := hp.facts
      have fg : ∀ i, wr.frozen? ⟨pg, i, none⟩ = false := fun _ => frozen_of hp.gh
      have c30 : wr.cell? ⟨pg, 30, none⟩ = some (.bool g.c.full) := cell_of hp.gh rfl
      have hlt := hp.lt
      by_cases hj4 : j < 4
      · have ci : wr.cell? ⟨pg, j, none⟩ = some (.bool ((zeroTo g.m j).has j)) := cell_of hp.gh (gh_has { g with m := zeroTo g.m j } hj4)
        have cv : wr.cell? ⟨pg, 4 + j, none⟩ = some (.int .i64 ((zeroTo g.m j).val j)) := cell_of hp.gh (gh_val { g with m := zeroTo g.m j } hj4)
        clear hp
        go_wp2
        have hg2 := (HP.out.gh.set (gs_has { g with m := zeroTo g.m j } hj4 false)).set (gs_val _ hj4 0)
        have hp2 := HP.out.next hg2 (Chg.px (Chg.px (Chg.refl _ _)))
        rw [show (({ g with m := zeroTo g.m j } : GS).m.setHas j false).setVal j 0 = zeroTo g.m (j + 1) from zeroTo_step g.m j] at hp2
        exact ⟨⟨j + 1, by omega, by simp, hp2⟩, by simp [intOf]; omega⟩
      · have ej : Hid (j = 4) := by show j = 4; omega
        clear hp
        go_wp2
        have hg1 : GhAt wr pg { g with m := zeroM } := by
          have := HP.out.gh
          rw [ej.out] at this
          rw [GhAt, ← ghCells_zero]
          exact this
        have hp1 : Pst wr w pg { g with m := zeroM } := ⟨HP.out.lt, hg1, HP.out.r, HP.out.a, HP.out.chg⟩
        have hp2 := hp1.next (hg1.set (gs_full _ false)) (Chg.px (Chg.refl _ _))
        exact ow_end hp2 (Chg.refl _ _) rfl fun w3 h3 => ⟨rfl, h3⟩

end Go.Proofs.Qxb6500371a.W
