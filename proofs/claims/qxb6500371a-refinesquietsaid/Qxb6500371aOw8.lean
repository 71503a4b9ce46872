import Derived.Test.Qxb6500371aOw
set_option linter.unusedVariables false
set_option linter.unusedSimpArgs false
namespace Go.Proofs.Qxb6500371a.W
open Go.RowKit Go.Maps

set_option maxHeartbeats 4000000 in
set_option maxRecDepth 4000 in
theorem ow_hold {w : World} {pg : Nat} {g : GS} (h : GhAt w pg g) (hn : g.n ≤ 4) (hh : g.heldOk) (o : OpD) (hk : o.kind = 8) :
    Calls Try.prog 46 #[pt pg, opV o] w fun x w' => x = .returned (ansV (owesG g o).1) ∧ GStp pg (owesG g o).2 w w' := by
  obtain ⟨kind, a, b, c, s, t⟩ := o
  simp only at hk
  subst hk
  have HP := pre_doW h ⟨8, a, b, c, s, t⟩
  unfold opV
  have hcs : g.n = 0 ∨ (∃ i, i < 4 ∧ g.n = i + 1 ∧ g.kind i = 1) ∨ (∃ i, i < 4 ∧ g.n = i + 1 ∧ g.kind i ≠ 1) := by
    cases hgn : g.n with
    | zero => exact Or.inl rfl
    | succ i =>
      by_cases hk1 : g.kind i = 1
      · exact Or.inr (Or.inl ⟨i, by omega, rfl, hk1⟩)
      · exact Or.inr (Or.inr ⟨i, by omega, rfl, hk1⟩)
  have hin : (0 ≤ a ∧ a < 4) ∨ a < 0 ∨ 4 ≤ a := by omega
  clear h
  go_enter Try.func46, Try.ntmps46
  rcases hin with hin | hin | hin
  all_goals
    go_upto_region 5 with fail
    change Code.wp Try.prog _ _ _ (doW w ⟨8, a, b, c, s, t⟩)
    generalize doW w ⟨8, a, b, c, s, t⟩ = W at HP ⊢
    have HH : Hid (Pre W w pg g ⟨8, a, b, c, s, t⟩) := HP
    obtain ⟨a0, a1, a2, a3, r0, r1, r2, r3, fa, fr⟩ := HP.pst.facts
    have c8 : W.cell? ⟨pg, 8, none⟩ = some (.int .i64 g.n) := cell_of HP.gh rfl
    have fg : ∀ i, W.frozen? ⟨pg, i, none⟩ = false := fun _ => frozen_of HP.gh
    have hlt := HP.lt
    have c33 : W.cell? ⟨pg, 33, none⟩ = some (.int .i64 g.held) := cell_of HP.gh rfl
    have c34 : W.cell? ⟨pg, 34, none⟩ = some (.int .i64 g.thn) := cell_of HP.gh rfl
    clear HP
    rcases hcs with hc0 | ⟨i, hi, hc1, hc2⟩ | ⟨i, hi, hc1, hc2⟩
    · rw [hc0] at c8
      have E : Hid (owesG g ⟨8, a, b, c, s, t⟩ = (⟨0, 0, 0, ⟨#[]⟩⟩, { g with held := 0, thn := 0 })) := by show owesG g ⟨8, a, b, c, s, t⟩ = _; simp [owesG, hc0]
      have c8' : W.cell? ⟨pg, 8, none⟩ = some (.int .i64 0) := c8
      clear c8 hc0
      go_wp2_with fail
      go_quiet (fail)
      go_wp2
      have hp2 := (HH.out.pst.next ((HH.out.gh.set (gs_held g 0)).set (gs_thn _ 0)) (Chg.px (Chg.px (Chg.refl _ _)))).drewN nq
      refine ow_end hp2 (Chg.refl _ _) rfl fun w3 h3 => ?_
      rw [E.out]
      exact ⟨rfl, h3⟩
    · have ck : W.cell? ⟨pg, 9 + i, none⟩ = some (.int .i64 (g.kind i)) := cell_of HH.out.gh (gh_kind g hi)
      have cp : W.cell? ⟨pg, 13 + i, none⟩ = some (.int .i64 (g.puts i)) := cell_of HH.out.gh (gh_puts g hi)
      have cd : W.cell? ⟨pg, 17 + i, none⟩ = some (.int .i64 (g.dels i)) := cell_of HH.out.gh (gh_dels g hi)
      rw [hc2] at ck
      have c8' : W.cell? ⟨pg, 8, none⟩ = some (.int .i64 ((i : Int) + 1)) := by rw [c8, hc1]; simp
      have d0 : decide ((0 : Int) < (i : Int) + 1) = true := by simp
      have E : Hid (owesG g ⟨8, a, b, c, s, t⟩ = (⟨0, 0, 0, ⟨#[]⟩⟩, { g with held := (i : Int) + 1, thn := wrap64 (g.puts i + g.dels i) })) := by show owesG g ⟨8, a, b, c, s, t⟩ = _; simp [owesG, hc1, hc2]
      clear c8 hc1 hc2
      go_wp2_with fail
      go_quiet (fail)
      go_wp2_with fail
      go_region
      all_goals
        go_wp2
        have hp2 := ((HH.out.pst.next (((HH.out.gh.set (gs_held g ((i : Int) + 1))).set (gs_thn _ 0)).set (gs_thn _ (wrap64 (g.puts i + g.dels i)))) (Chg.px (Chg.px (Chg.px (Chg.refl _ _))))).drewN nq).drew
        refine ow_end hp2 (Chg.refl _ _) rfl fun w3 h3 => ?_
        rw [E.out]
        exact ⟨rfl, h3⟩
    · have ck : W.cell? ⟨pg, 9 + i, none⟩ = some (.int .i64 (g.kind i)) := cell_of HH.out.gh (gh_kind g hi)
      have c8' : W.cell? ⟨pg, 8, none⟩ = some (.int .i64 ((i : Int) + 1)) := by rw [c8, hc1]; simp
      have d0 : decide ((0 : Int) < (i : Int) + 1) = true := by simp
      have d1 : (g.kind i == 1) = false := by simpa using hc2
      have E : Hid (owesG g ⟨8, a, b, c, s, t⟩ = (⟨0, 0, 0, ⟨#[]⟩⟩, { g with held := (i : Int) + 1, thn := 0 })) := by show owesG g ⟨8, a, b, c, s, t⟩ = _; simp [owesG, hc1, hc2]
      clear c8 hc1 hc2
      go_wp2_with fail
      go_quiet (fail)
      go_wp2
      have hp2 := (HH.out.pst.next ((HH.out.gh.set (gs_held g ((i : Int) + 1))).set (gs_thn _ 0)) (Chg.px (Chg.px (Chg.refl _ _)))).drewN nq
      refine ow_end hp2 (Chg.refl _ _) rfl fun w3 h3 => ?_
      rw [E.out]
      exact ⟨rfl, h3⟩

end Go.Proofs.Qxb6500371a.W
