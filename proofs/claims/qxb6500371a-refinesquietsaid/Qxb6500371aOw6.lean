import Derived.Test.Qxb6500371aOw
set_option linter.unusedVariables false
set_option linter.unusedSimpArgs false
namespace Go.Proofs.Qxb6500371a.W
open Go.RowKit Go.Maps

set_option maxHeartbeats 4000000 in
set_option maxRecDepth 4000 in
theorem ow_del {w : World} {pg : Nat} {g : GS} (h : GhAt w pg g) (hn : g.n ≤ 4) (hh : g.heldOk) (o : OpD) (hk : o.kind = 4) :
    Calls Try.prog 46 #[pt pg, opV o] w fun x w' => x = .returned (ansV (owesG g o).1) ∧ GStp pg (owesG g o).2 w w' := by
  obtain ⟨kind, a, b, c, s, t⟩ := o
  simp only at hk
  subst hk
  have HP := pre_doW h ⟨4, a, b, c, s, t⟩
  unfold opV
  clear h
  by_cases hb : a < 0 ∨ 4 ≤ a
  · have E : Hid (owesG g ⟨4, a, b, c, s, t⟩ = (⟨1, 0, 0, ⟨#[]⟩⟩, g)) := by
      show owesG g ⟨4, a, b, c, s, t⟩ = _
      have e : delM g.m a = (1, g.m) := by rw [delM_err (by rw [rowR_bad hb]; simp), rowR_bad hb]
      simp [owesG, e]
    go_enter Try.func46, Try.ntmps46
    rcases (show (decide (0 ≤ a) = false) ∨ (decide (0 ≤ a) = true ∧ decide (a < 4) = false) by rcases hb with hb | hb; exact Or.inl (by simp; omega); exact Or.inr ⟨by simp; omega, by simp; omega⟩) with hb | ⟨hb, hb2⟩
    all_goals
      go_upto_region 5 with fail
      change Code.wp Try.prog _ _ _ (doW w ⟨4, _, b, c, s, t⟩)
      generalize doW w ⟨4, _, b, c, s, t⟩ = W at HP ⊢
      have HH : Hid (Pre W w pg g ⟨4, _, b, c, s, t⟩) := HP
      obtain ⟨a0, a1, a2, a3, r0, r1, r2, r3, fa, fr⟩ := HP.pst.facts
      have hlt := HP.lt
      clear HP
      go_wp2
      refine ow_end HH.out.pst (Chg.px (Chg.refl _ _)) rfl fun w3 h3 => ?_
      rw [E.out]
      exact ⟨rfl, h3⟩
  · obtain ⟨i, rfl⟩ : ∃ i : Nat, a = i := ⟨a.toNat, by omega⟩
    have hi : i < 4 := by omega
    have hd1 : decide (i < 4) = true := by simpa using hi
    have hd2 : decide ((i : Int) < 4) = true := by simp; omega
    cases hhs : g.m.has i with
    | false =>
      have E : Hid (owesG g ⟨4, i, b, c, s, t⟩ = (⟨2, 0, 0, ⟨#[]⟩⟩, g)) := by
        show owesG g ⟨4, i, b, c, s, t⟩ = _
        have e : delM g.m i = (2, g.m) := by rw [delM_err (by rw [rowR_in hi, hhs]; simp), rowR_in hi, hhs]; rfl
        simp [owesG, e]
      go_enter Try.func46, Try.ntmps46
      go_upto_region 5 with fail
      change Code.wp Try.prog _ _ _ (doW w ⟨4, _, b, c, s, t⟩)
      generalize doW w ⟨4, _, b, c, s, t⟩ = W at HP ⊢
      have HH : Hid (Pre W w pg g ⟨4, _, b, c, s, t⟩) := HP
      obtain ⟨a0, a1, a2, a3, r0, r1, r2, r3, fa, fr⟩ := HP.pst.facts
      have hlt := HP.lt
      have ci : W.cell? ⟨pg, i, none⟩ = some (.bool false) := by rw [← hhs]; exact cell_of HP.gh (gh_has g hi)
      clear HP hb hhs
      go_wp2
      refine ow_end HH.out.pst (Chg.px (Chg.refl _ _)) rfl fun w3 h3 => ?_
      rw [E.out]
      exact ⟨rfl, h3⟩
    | true =>
      have E : Hid (owesG g ⟨4, i, b, c, s, t⟩ = (⟨0, 0, 0, ⟨#[]⟩⟩, turnG { g with m := (g.m.setHas i false).setVal i 0 } 68 i g.n)) := by
        show owesG g ⟨4, i, b, c, s, t⟩ = _
        have e : delM g.m i = (0, (g.m.setHas i false).setVal i 0) := delM_ok hi hhs
        simp [owesG, e]
      go_enter Try.func46, Try.ntmps46
      go_upto_region 5 with fail
      change Code.wp Try.prog _ _ _ (doW w ⟨4, _, b, c, s, t⟩)
      generalize doW w ⟨4, _, b, c, s, t⟩ = W at HP ⊢
      have HH : Hid (Pre W w pg g ⟨4, _, b, c, s, t⟩) := HP
      obtain ⟨a0, a1, a2, a3, r0, r1, r2, r3, fa, fr⟩ := HP.pst.facts
      have hlt := HP.lt
      have c8 : W.cell? ⟨pg, 8, none⟩ = some (.int .i64 g.n) := cell_of HP.gh rfl
      have ci : W.cell? ⟨pg, i, none⟩ = some (.bool true) := by rw [← hhs]; exact cell_of HP.gh (gh_has g hi)
      have cv : W.cell? ⟨pg, 4 + i, none⟩ = some (.int .i64 (g.m.val i)) := cell_of HP.gh (gh_val g hi)
      have fg : ∀ i, W.frozen? ⟨pg, i, none⟩ = false := fun _ => frozen_of HP.gh
      clear HP hb hhs
      go_wp2_with fail
      have hg2 := (HH.out.gh.set (gs_has g hi false)).set (gs_val _ hi 0)
      refine (turned_calls hg2 68 i g.n hn).mono ?_
      rintro x w2 ⟨rfl, hg3, hc3⟩
      have hp2 := (HH.out.pst.next hg2 (Chg.px (Chg.px (Chg.refl _ _)))).next hg3 hc3
      clear a0 a1 a2 a3 r0 r1 r2 r3 fa fr fg c8 hg3 hc3 hg2 ci cv
      obtain ⟨a0, a1, a2, a3, r0, r1, r2, r3, fa, fr⟩ := hp2.facts
      have HP2 : Hid (Pst w2 w pg (turnG { g with m := (g.m.setHas i false).setVal i 0 } 68 i g.n)) := hp2
      clear hp2
      go_wp2
      refine ow_end HP2.out (Chg.refl _ _) rfl fun w3 h3 => ?_
      rw [E.out]
      exact ⟨rfl, h3⟩

end Go.Proofs.Qxb6500371a.W
