import Derived.Test.Qxb6500371aOw
set_option linter.unusedVariables false
set_option linter.unusedSimpArgs false
namespace Go.Proofs.Qxb6500371a.W
open Go.RowKit Go.Maps

set_option maxHeartbeats 4000000 in
set_option maxRecDepth 4000 in
theorem ow_hits {w : World} {pg : Nat} {g : GS} (h : GhAt w pg g) (hn : g.n ≤ 4) (hh : g.heldOk) (o : OpD) (hk : o.kind = 7) :
    Calls Try.prog 46 #[pt pg, opV o] w fun x w' => x = .returned (ansV (owesG g o).1) ∧ GStp pg (owesG g o).2 w w' := by
  obtain ⟨kind, a, b, c, s, t⟩ := o
  simp only at hk
  subst hk
  have HP := pre_doW h ⟨7, a, b, c, s, t⟩
  unfold opV
  have hcs : g.n = 0 ∨ (∃ i, i < 4 ∧ g.n = i + 1 ∧ g.kind i = 1) ∨ (∃ i, i < 4 ∧ g.n = i + 1 ∧ g.kind i ≠ 1) := by
    cases hgn : g.n with
    | zero => exact Or.inl rfl
    | succ i =>
      by_cases hk1 : g.kind i = 1
      · exact Or.inr (Or.inl ⟨i, by omega, rfl, hk1⟩)
      · exact Or.inr (Or.inr ⟨i, by omega, rfl, hk1⟩)
  have hin : (0 ≤ a ∧ a < 4) ∨ a < 0 ∨ 4 ≤ a := by omega
  clear h
  go_enter Try.func46, Try.ntmps46
  rcases hin with hin | hin | hin
  all_goals
    go_upto_region 5 with fail
    change Code.wp Try.prog _ _ _ (doW w ⟨7, a, b, c, s, t⟩)
    generalize doW w ⟨7, a, b, c, s, t⟩ = W at HP ⊢
    have HH : Hid (Pre W w pg g ⟨7, a, b, c, s, t⟩) := HP
    obtain ⟨a0, a1, a2, a3, r0, r1, r2, r3, fa, fr⟩ := HP.pst.facts
    have c8 : W.cell? ⟨pg, 8, none⟩ = some (.int .i64 g.n) := cell_of HP.gh rfl
    have fg : ∀ i, W.frozen? ⟨pg, i, none⟩ = false := fun _ => frozen_of HP.gh
    have c29 : W.cell? ⟨pg, 29, none⟩ = some (.int .i64 g.c.hits) := cell_of HP.gh rfl
    clear HP
    rcases hcs with hc0 | ⟨i, hi, hc1, hc2⟩ | ⟨i, hi, hc1, hc2⟩
    · rw [hc0] at c8
      have E : Hid (owesG g ⟨7, a, b, c, s, t⟩ = (⟨7, 0, 0, ⟨#[]⟩⟩, g)) := by show owesG g ⟨7, a, b, c, s, t⟩ = _; simp [owesG, hc0]
      have c8' : W.cell? ⟨pg, 8, none⟩ = some (.int .i64 0) := c8
      clear c8 hc0
      go_wp2_with fail
      go_quiet (fail)
      go_wp2
      refine ow_end (HH.out.pst.drewN _) (Chg.px (Chg.refl _ _)) rfl fun w3 h3 => ?_
      rw [E.out]
      exact ⟨rfl, h3⟩
    · have ck : W.cell? ⟨pg, 9 + i, none⟩ = some (.int .i64 (g.kind i)) := cell_of HH.out.gh (gh_kind g hi)
      rw [hc2] at ck
      have c8' : W.cell? ⟨pg, 8, none⟩ = some (.int .i64 ((i : Int) + 1)) := by rw [c8, hc1]; simp
      have d0 : (((i : Int) + 1) == 0) = false := by simp; omega
      have E : Hid (owesG g ⟨7, a, b, c, s, t⟩ = (⟨7, 0, 0, ⟨#[]⟩⟩, g)) := by show owesG g ⟨7, a, b, c, s, t⟩ = _; simp [owesG, hc1, hc2]
      clear c8 hc1 hc2
      go_wp2_with fail
      go_quiet ((go_at_call 69; exact Calls.quiet_of_same (says_calls _ _)))
      go_wp2
      refine ow_end (HH.out.pst.drewN _) (Chg.px (Chg.refl _ _)) rfl fun w3 h3 => ?_
      rw [E.out]
      exact ⟨rfl, h3⟩
    · have ck : W.cell? ⟨pg, 9 + i, none⟩ = some (.int .i64 (g.kind i)) := cell_of HH.out.gh (gh_kind g hi)
      have c8' : W.cell? ⟨pg, 8, none⟩ = some (.int .i64 ((i : Int) + 1)) := by rw [c8, hc1]; simp
      have d0 : (((i : Int) + 1) == 0) = false := by simp; omega
      have d1 : (g.kind i != 1) = true := by simpa using hc2
      have E : Hid (owesG g ⟨7, a, b, c, s, t⟩ = (⟨0, g.c.hits, 0, ⟨#[]⟩⟩, g)) := by show owesG g ⟨7, a, b, c, s, t⟩ = _; simp [owesG, hc1, hc2]
      clear c8 hc1 hc2
      go_wp2_with fail
      go_quiet ((go_at_call 69; exact Calls.quiet_of_same (says_calls _ _)))
      go_wp2
      refine ow_end (HH.out.pst.drewN _) (Chg.px (Chg.refl _ _)) rfl fun w3 h3 => ?_
      rw [E.out]
      exact ⟨rfl, h3⟩

end Go.Proofs.Qxb6500371a.W
