import Derived.Test.Qxb6500371aOw
set_option linter.unusedVariables false
set_option linter.unusedSimpArgs false
namespace Go.Proofs.Qxb6500371a.W
open Go.RowKit Go.Maps

set_option maxHeartbeats 4000000 in
set_option maxRecDepth 4000 in
theorem ow_len {w : World} {pg : Nat} {g : GS} (h : GhAt w pg g) (hn : g.n ≤ 4) (hh : g.heldOk) (o : OpD) (hk : o.kind = 5) :
    Calls Try.prog 46 #[pt pg, opV o] w fun x w' => x = .returned (ansV (owesG g o).1) ∧ GStp pg (owesG g o).2 w w' := by
  obtain ⟨kind, a, b, c, s, t⟩ := o
  simp only at hk
  subst hk
  have HP := pre_doW h ⟨5, a, b, c, s, t⟩
  unfold opV
  have hin : (0 ≤ a ∧ a < 4) ∨ a < 0 ∨ 4 ≤ a := by omega
  clear h
  go_enter Try.func46, Try.ntmps46
  rcases hin with hin | hin | hin
  all_goals
    go_upto_region 5 with fail
    change Code.wp Try.prog _ _ _ (doW w ⟨5, a, b, c, s, t⟩)
    generalize doW w ⟨5, a, b, c, s, t⟩ = W at HP ⊢
    have HH : Hid (Pre W w pg g ⟨5, a, b, c, s, t⟩) := HP
    obtain ⟨a0, a1, a2, a3, r0, r1, r2, r3, fa, fr⟩ := HP.pst.facts
    have c8 : W.cell? ⟨pg, 8, none⟩ = some (.int .i64 g.n) := cell_of HP.gh rfl
    have fg : ∀ i, W.frozen? ⟨pg, i, none⟩ = false := fun _ => frozen_of HP.gh
    clear HP
    go_wp2_with fail
    refine (count_calls HH.out.gh).mono ?_
    rintro x w2 ⟨rfl, hw2⟩
    obtain rfl : W = w2 := hw2.symm
    clear hw2
    go_wp2
    exact ow_end HH.out.pst (Chg.px (Chg.refl _ _)) rfl fun w3 h3 => ⟨rfl, h3⟩

set_option maxHeartbeats 4000000 in
set_option maxRecDepth 4000 in
theorem ow_name {w : World} {pg : Nat} {g : GS} (h : GhAt w pg g) (hn : g.n ≤ 4) (hh : g.heldOk) (o : OpD) (hk : o.kind = 6) :
    Calls Try.prog 46 #[pt pg, opV o] w fun x w' => x = .returned (ansV (owesG g o).1) ∧ GStp pg (owesG g o).2 w w' := by
  obtain ⟨kind, a, b, c, s, t⟩ := o
  simp only at hk
  subst hk
  have HP := pre_doW h ⟨6, a, b, c, s, t⟩
  unfold opV
  have hin : (0 ≤ a ∧ a < 4) ∨ a < 0 ∨ 4 ≤ a := by omega
  clear h
  go_enter Try.func46, Try.ntmps46
  rcases hin with hin | hin | hin
  all_goals
    go_upto_region 5 with fail
    change Code.wp Try.prog _ _ _ (doW w ⟨6, a, b, c, s, t⟩)
    generalize doW w ⟨6, a, b, c, s, t⟩ = W at HP ⊢
    have HH : Hid (Pre W w pg g ⟨6, a, b, c, s, t⟩) := HP
    obtain ⟨a0, a1, a2, a3, r0, r1, r2, r3, fa, fr⟩ := HP.pst.facts
    have c8 : W.cell? ⟨pg, 8, none⟩ = some (.int .i64 g.n) := cell_of HP.gh rfl
    have fg : ∀ i, W.frozen? ⟨pg, i, none⟩ = false := fun _ => frozen_of HP.gh
    clear HP
    go_wp2_with fail
    refine (named_calls HH.out.gh hn).mono ?_
    rintro x w2 ⟨rfl, hw2⟩
    obtain rfl : W = w2 := hw2.symm
    clear hw2
    go_wp2
    exact ow_end HH.out.pst (Chg.px (Chg.refl _ _)) rfl fun w3 h3 => ⟨rfl, h3⟩

set_option maxHeartbeats 4000000 in
set_option maxRecDepth 4000 in
theorem ow_check {w : World} {pg : Nat} {g : GS} (h : GhAt w pg g) (hn : g.n ≤ 4) (hh : g.heldOk) (o : OpD) (hk : o.kind = 11) :
    Calls Try.prog 46 #[pt pg, opV o] w fun x w' => x = .returned (ansV (owesG g o).1) ∧ GStp pg (owesG g o).2 w w' := by
  obtain ⟨kind, a, b, c, s, t⟩ := o
  simp only at hk
  subst hk
  have HP := pre_doW h ⟨11, a, b, c, s, t⟩
  unfold opV
  have hin : (0 ≤ a ∧ a < 4) ∨ a < 0 ∨ 4 ≤ a := by omega
  clear h
  go_enter Try.func46, Try.ntmps46
  rcases hin with hin | hin | hin
  all_goals
    go_upto_region 5 with fail
    change Code.wp Try.prog _ _ _ (doW w ⟨11, a, b, c, s, t⟩)
    generalize doW w ⟨11, a, b, c, s, t⟩ = W at HP ⊢
    have HH : Hid (Pre W w pg g ⟨11, a, b, c, s, t⟩) := HP
    obtain ⟨a0, a1, a2, a3, r0, r1, r2, r3, fa, fr⟩ := HP.pst.facts
    have c8 : W.cell? ⟨pg, 8, none⟩ = some (.int .i64 g.n) := cell_of HP.gh rfl
    have fg : ∀ i, W.frozen? ⟨pg, i, none⟩ = false := fun _ => frozen_of HP.gh
    clear HP
    go_wp2
    exact ow_end HH.out.pst (Chg.px (Chg.refl _ _)) rfl fun w3 h3 => ⟨rfl, h3⟩

set_option maxHeartbeats 4000000 in
set_option maxRecDepth 4000 in
theorem ow_get {w : World} {pg : Nat} {g : GS} (h : GhAt w pg g) (hn : g.n ≤ 4) (hh : g.heldOk) (o : OpD) (hk : o.kind = 2) :
    Calls Try.prog 46 #[pt pg, opV o] w fun x w' => x = .returned (ansV (owesG g o).1) ∧ GStp pg (owesG g o).2 w w' := by
  obtain ⟨kind, a, b, c, s, t⟩ := o
  simp only at hk
  subst hk
  have HP := pre_doW h ⟨2, a, b, c, s, t⟩
  unfold opV
  have hin : (0 ≤ a ∧ a < 4) ∨ a < 0 ∨ 4 ≤ a := by omega
  clear h
  go_enter Try.func46, Try.ntmps46
  rcases hin with hin | hin | hin
  all_goals
    go_upto_region 5 with fail
    change Code.wp Try.prog _ _ _ (doW w ⟨2, a, b, c, s, t⟩)
    generalize doW w ⟨2, a, b, c, s, t⟩ = W at HP ⊢
    have HH : Hid (Pre W w pg g ⟨2, a, b, c, s, t⟩) := HP
    obtain ⟨a0, a1, a2, a3, r0, r1, r2, r3, fa, fr⟩ := HP.pst.facts
    have c8 : W.cell? ⟨pg, 8, none⟩ = some (.int .i64 g.n) := cell_of HP.gh rfl
    have fg : ∀ i, W.frozen? ⟨pg, i, none⟩ = false := fun _ => frozen_of HP.gh
    clear HP
    go_wp2_with fail
    refine (got_calls HH.out.gh g.n hn a).mono ?_
    rintro x w2 ⟨rfl, hg2, hc2⟩
    have hp2 : Pst w2 w pg (gotG g g.n a).2.2 := HH.out.pst.next hg2 hc2
    clear a0 a1 a2 a3 r0 r1 r2 r3 fa fr fg c8 hg2 hc2
    obtain ⟨a0, a1, a2, a3, r0, r1, r2, r3, fa, fr⟩ := hp2.facts
    have HP2 : Hid (Pst w2 w pg (gotG g g.n a).2.2) := hp2
    clear hp2
    go_wp2
    exact ow_end HP2.out (Chg.px (Chg.px (Chg.refl _ _))) rfl fun w3 h3 => ⟨rfl, h3⟩

set_option maxHeartbeats 4000000 in
set_option maxRecDepth 4000 in
theorem ow_since {w : World} {pg : Nat} {g : GS} (h : GhAt w pg g) (hn : g.n ≤ 4) (hh : g.heldOk) (o : OpD) (hk : o.kind = 14) :
    Calls Try.prog 46 #[pt pg, opV o] w fun x w' => x = .returned (ansV (owesG g o).1) ∧ GStp pg (owesG g o).2 w w' := by
  obtain ⟨kind, a, b, c, s, t⟩ := o
  simp only at hk
  subst hk
  have HP := pre_doW h ⟨14, a, b, c, s, t⟩
  unfold opV
  have hin : (0 ≤ a ∧ a < 4) ∨ a < 0 ∨ 4 ≤ a := by omega
  clear h
  go_enter Try.func46, Try.ntmps46
  rcases hin with hin | hin | hin
  all_goals
    go_upto_region 5 with fail
    change Code.wp Try.prog _ _ _ (doW w ⟨14, a, b, c, s, t⟩)
    generalize doW w ⟨14, a, b, c, s, t⟩ = W at HP ⊢
    have HH : Hid (Pre W w pg g ⟨14, a, b, c, s, t⟩) := HP
    obtain ⟨a0, a1, a2, a3, r0, r1, r2, r3, fa, fr⟩ := HP.pst.facts
    have c8 : W.cell? ⟨pg, 8, none⟩ = some (.int .i64 g.n) := cell_of HP.gh rfl
    have fg : ∀ i, W.frozen? ⟨pg, i, none⟩ = false := fun _ => frozen_of HP.gh
    clear HP
    go_wp2_with fail
    refine (sinced_calls HH.out.gh hh).mono ?_
    rintro x w2 ⟨rfl, hc2⟩
    have hp2 : Pst w2 w pg g := HH.out.pst.next (HH.out.gh.chg hc2 (by simp)) hc2.any
    clear a0 a1 a2 a3 r0 r1 r2 r3 fa fr fg c8 hc2
    obtain ⟨a0, a1, a2, a3, r0, r1, r2, r3, fa, fr⟩ := hp2.facts
    have HP2 : Hid (Pst w2 w pg g) := hp2
    clear hp2
    go_wp2
    exact ow_end HP2.out (Chg.px (Chg.px (Chg.refl _ _))) rfl fun w3 h3 => ⟨rfl, h3⟩

end Go.Proofs.Qxb6500371a.W
