import Derived.Test.Qxb6500371aOw
set_option linter.unusedVariables false
set_option linter.unusedSimpArgs false
namespace Go.Proofs.Qxb6500371a.W
open Go.RowKit Go.Maps

set_option maxHeartbeats 4000000 in
set_option maxRecDepth 4000 in
theorem ow_hget {w : World} {pg : Nat} {g : GS} (h : GhAt w pg g) (hn : g.n ≤ 4) (hh : g.heldOk) (o : OpD) (hk : o.kind = 9) :
    Calls Try.prog 46 #[pt pg, opV o] w fun x w' => x = .returned (ansV (owesG g o).1) ∧ GStp pg (owesG g o).2 w w' := by
  obtain ⟨kind, a, b, c, s, t⟩ := o
  simp only at hk
  subst hk
  have HP := pre_doW h ⟨9, a, b, c, s, t⟩
  unfold opV
  have hin : (0 ≤ a ∧ a < 4) ∨ a < 0 ∨ 4 ≤ a := by omega
  clear h
  go_enter Try.func46, Try.ntmps46
  rcases hin with hin | hin | hin
  all_goals
    go_upto_region 5 with fail
    change Code.wp Try.prog _ _ _ (doW w ⟨9, a, b, c, s, t⟩)
    generalize doW w ⟨9, a, b, c, s, t⟩ = W at HP ⊢
    have HH : Hid (Pre W w pg g ⟨9, a, b, c, s, t⟩) := HP
    obtain ⟨a0, a1, a2, a3, r0, r1, r2, r3, fa, fr⟩ := HP.pst.facts
    have c8 : W.cell? ⟨pg, 8, none⟩ = some (.int .i64 g.n) := cell_of HP.gh rfl
    have fg : ∀ i, W.frozen? ⟨pg, i, none⟩ = false := fun _ => frozen_of HP.gh
    have c33 : W.cell? ⟨pg, 33, none⟩ = some (.int .i64 g.held) := cell_of HP.gh rfl
    clear HP
    rcases hh with he | ⟨q, hq, he⟩
    · rw [he] at c33
      have E : Hid (owesG g ⟨9, a, b, c, s, t⟩ = (⟨8, 0, 0, ⟨#[]⟩⟩, g)) := by show owesG g ⟨9, a, b, c, s, t⟩ = _; simp [owesG, he]
      clear he
      go_wp2
      refine ow_end HH.out.pst (Chg.px (Chg.refl _ _)) rfl fun w3 h3 => ?_
      rw [E.out]
      exact ⟨rfl, h3⟩
    · rw [he] at c33
      have hd : decide (((q : Nat) : Int) < 0) = false := by simp
      have E : Hid (owesG g ⟨9, a, b, c, s, t⟩ = (⟨(gotG g q a).2.1, (gotG g q a).1, 0, ⟨#[]⟩⟩, (gotG g q a).2.2)) := by
        show owesG g ⟨9, a, b, c, s, t⟩ = _
        have h1 : ¬ g.held < 0 := by omega
        have h2 : g.held.toNat = q := by omega
        simp [owesG, h1, h2]
      clear he
      go_wp2_with fail
      refine (got_calls HH.out.gh q hq a).mono ?_
      rintro x w2 ⟨rfl, hg2, hc2⟩
      have hp2 : Pst w2 w pg (gotG g q a).2.2 := HH.out.pst.next hg2 hc2
      clear a0 a1 a2 a3 r0 r1 r2 r3 fa fr fg c8 hg2 hc2 c33
      obtain ⟨a0, a1, a2, a3, r0, r1, r2, r3, fa, fr⟩ := hp2.facts
      have HP2 : Hid (Pst w2 w pg (gotG g q a).2.2) := hp2
      clear hp2
      go_wp2
      refine ow_end HP2.out (Chg.px (Chg.px (Chg.refl _ _))) rfl fun w3 h3 => ?_
      rw [E.out]
      exact ⟨rfl, h3⟩

set_option maxHeartbeats 4000000 in
set_option maxRecDepth 4000 in
theorem ow_hput {w : World} {pg : Nat} {g : GS} (h : GhAt w pg g) (hn : g.n ≤ 4) (hh : g.heldOk) (o : OpD) (hk : o.kind = 13) :
    Calls Try.prog 46 #[pt pg, opV o] w fun x w' => x = .returned (ansV (owesG g o).1) ∧ GStp pg (owesG g o).2 w w' := by
  obtain ⟨kind, a, b, c, s, t⟩ := o
  simp only at hk
  subst hk
  have HP := pre_doW h ⟨13, a, b, c, s, t⟩
  unfold opV
  have hin : (0 ≤ a ∧ a < 4) ∨ a < 0 ∨ 4 ≤ a := by omega
  clear h
  go_enter Try.func46, Try.ntmps46
  rcases hin with hin | hin | hin
  all_goals
    go_upto_region 5 with fail
    change Code.wp Try.prog _ _ _ (doW w ⟨13, a, b, c, s, t⟩)
    generalize doW w ⟨13, a, b, c, s, t⟩ = W at HP ⊢
    have HH : Hid (Pre W w pg g ⟨13, a, b, c, s, t⟩) := HP
    obtain ⟨a0, a1, a2, a3, r0, r1, r2, r3, fa, fr⟩ := HP.pst.facts
    have c8 : W.cell? ⟨pg, 8, none⟩ = some (.int .i64 g.n) := cell_of HP.gh rfl
    have fg : ∀ i, W.frozen? ⟨pg, i, none⟩ = false := fun _ => frozen_of HP.gh
    have c33 : W.cell? ⟨pg, 33, none⟩ = some (.int .i64 g.held) := cell_of HP.gh rfl
    have o2 : W.cell? ⟨w.heap.size, 2, none⟩ = some (.int .i64 b) := cell_of HP.op rfl
    clear HP
    rcases hh with he | ⟨q, hq, he⟩
    · rw [he] at c33
      have E : Hid (owesG g ⟨13, a, b, c, s, t⟩ = (⟨8, 0, 0, ⟨#[]⟩⟩, g)) := by show owesG g ⟨13, a, b, c, s, t⟩ = _; simp [owesG, he]
      clear he
      go_wp2
      refine ow_end HH.out.pst (Chg.px (Chg.refl _ _)) rfl fun w3 h3 => ?_
      rw [E.out]
      exact ⟨rfl, h3⟩
    · rw [he] at c33
      have hd : decide (((q : Nat) : Int) < 0) = false := by simp
      have E : Hid (owesG g ⟨13, a, b, c, s, t⟩ = (⟨(laidG g q a b).1, 0, 0, ⟨#[]⟩⟩, (laidG g q a b).2)) := by
        show owesG g ⟨13, a, b, c, s, t⟩ = _
        have h1 : ¬ g.held < 0 := by omega
        have h2 : g.held.toNat = q := by omega
        simp [owesG, h1, h2]
      clear he
      have LC : ∀ W : World, Pre W w pg g ⟨13, a, b, c, s, t⟩ → Calls Try.prog 65 #[pt pg, .int .i64 q, .int .i64 a, .int .i64 b] W fun e w' => e = .returned (.int .i64 (laidG g q a b).1) ∧ Pst w' w pg (laidG g q a b).2 :=
        fun W hW => (laid_calls hW.gh q hq a b).mono fun e w' he => ⟨he.1, hW.pst.next he.2.1 he.2.2⟩
      clear a0 a1 a2 a3 r0 r1 r2 r3 fa fr fg c8
      go_wp2_with fail
      go_region_with (go_at_call 65; refine (LC _ ?_).mono ?_; exact HH.out.drew; rintro x w2 ⟨rfl, hp2⟩; obtain ⟨a0, a1, a2, a3, r0, r1, r2, r3, fa, fr⟩ := hp2.facts)
      all_goals
        go_wp2
        refine ow_end hp2 (Chg.px (Chg.refl _ _)) rfl fun w3 h3 => ?_
        rw [E.out]
        exact ⟨rfl, h3⟩

end Go.Proofs.Qxb6500371a.W
