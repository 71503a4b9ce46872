import Derived.Test.Qxb6500371aOw
set_option linter.unusedVariables false
set_option linter.unusedSimpArgs false
namespace Go.Proofs.Qxb6500371a.W
open Go.RowKit Go.Maps

theorem gs_n' (g : GS) (v : Nat) (z : Int) (hz : z = v) : (ghCells g).setIfInBounds 8 (.int .i64 z) = ghCells { g with n := v } := by subst hz; exact gs_n g v
theorem gs_kind0 (g : GS) (v : Int) : (ghCells g).setIfInBounds 9 (.int .i64 v) = ghCells { g with kind := upd g.kind 0 v } := gs_kind g (i := 0) (by omega) v

theorem ow_end_drew {tmps : Array Value} {w W w1 : World} {pg : Nat} {g' : GS} {e n m : Int} {s : ByteArray} {Q : Ending → World → Prop} (hs : Pst W w pg g') (h1 : Chg [w.heap.size + 1 + 1] W w1) (hp : tmps.getD 4 undef = .pointer (some ⟨w.heap.size + 1, 0, none⟩))
    (h : ∀ w3, GStp pg g' w w3 → Q (.returned (ansV ⟨e, n, m, s⟩)) w3) :
    bodyPost Try.prog Try.f46 Q Exit.ret { tmps := tmps, defers := [] } ((((w1.setCell ⟨w.heap.size + 1, 0, none⟩ (.int .i64 e)).setCell ⟨w.heap.size + 1, 1, none⟩ (.int .i64 n)).setCell ⟨w.heap.size + 1, 2, none⟩ (.int .i64 m)).setCell ⟨w.heap.size + 1, 3, none⟩ (.string s)).drew :=
  owes_ret (R := w.heap.size + 1) hp (ans_row2 (h1.keep hs.r (by simp)) _ _ _ _)
    (h _ (let q := ow_fin hs.lt (by omega : w.heap.size ≤ w.heap.size + 1 + 1) (by omega : w.heap.size ≤ w.heap.size + 1) hs.gh hs.chg h1 (.int .i64 e) (.int .i64 n) (.int .i64 m) (.string s); ⟨q.at_, q.chg.drew⟩))

set_option maxHeartbeats 4000000 in
set_option maxRecDepth 4000 in
theorem ow_wrap {w : World} {pg : Nat} {g : GS} (h : GhAt w pg g) (hn : g.n ≤ 4) (hh : g.heldOk) (o : OpD) (hk : o.kind = 1) :
    Calls Try.prog 46 #[pt pg, opV o] w fun x w' => x = .returned (ansV (owesG g o).1) ∧ GStp pg (owesG g o).2 w w' := by
  obtain ⟨kind, a, b, c, s, t⟩ := o
  simp only at hk
  subst hk
  have HP := pre_doW h ⟨1, a, b, c, s, t⟩
  unfold opV
  clear h
  by_cases ha : a ≠ 1 ∧ a ≠ 2 ∧ a ≠ 3
  · have E : Hid (owesG g ⟨1, a, b, c, s, t⟩ = (⟨4, 0, 0, ⟨#[]⟩⟩, g)) := by show owesG g ⟨1, a, b, c, s, t⟩ = _; simp [owesG, ha]
    obtain ⟨h1, h2, h3⟩ := ha
    have k1 : (a != 1) = true := by simpa using h1
    have k2 : (a != 2) = true := by simpa using h2
    have k3 : (a != 3) = true := by simpa using h3
    have hin : (0 ≤ a ∧ a < 4) ∨ a < 0 ∨ 4 ≤ a := by omega
    clear h1 h2 h3
    go_enter Try.func46, Try.ntmps46
    rcases hin with hin | hin | hin
    all_goals
      go_upto_region 5 with fail
      change Code.wp Try.prog _ _ _ (doW w ⟨1, a, b, c, s, t⟩)
      generalize doW w ⟨1, a, b, c, s, t⟩ = W at HP ⊢
      have HH : Hid (Pre W w pg g ⟨1, a, b, c, s, t⟩) := HP
      obtain ⟨a0, a1, a2, a3, r0, r1, r2, r3, fa, fr⟩ := HP.pst.facts
      clear HP
      go_wp2
      refine ow_end HH.out.pst (Chg.px (Chg.refl _ _)) rfl fun w3 h3 => ?_
      rw [E.out]
      exact ⟨rfl, h3⟩
  · have ha' : a = 1 ∨ a = 2 ∨ a = 3 := by omega
    by_cases h4 : 4 ≤ g.n
    · have E : Hid (owesG g ⟨1, a, b, c, s, t⟩ = (⟨5, 0, 0, ⟨#[]⟩⟩, g)) := by
        show owesG g ⟨1, a, b, c, s, t⟩ = _
        rw [owesG, if_pos rfl, if_neg ha, if_pos h4]
      have hd : decide (4 ≤ g.n) = true := by simpa using h4
      have hd' : decide ((4 : Int) ≤ (g.n : Int)) = true := by simp; omega
      clear ha
      rcases ha' with rfl | rfl | rfl
      all_goals
        go_enter Try.func46, Try.ntmps46
        go_upto_region 5 with fail
        change Code.wp Try.prog _ _ _ (doW w ⟨1, _, b, c, s, t⟩)
        generalize doW w ⟨1, _, b, c, s, t⟩ = W at HP ⊢
        have HH : Hid (Pre W w pg g ⟨1, _, b, c, s, t⟩) := HP
        obtain ⟨a0, a1, a2, a3, r0, r1, r2, r3, fa, fr⟩ := HP.pst.facts
        have c8 : W.cell? ⟨pg, 8, none⟩ = some (.int .i64 g.n) := cell_of HP.gh rfl
        clear HP
        go_wp2
        refine ow_end HH.out.pst (Chg.px (Chg.refl _ _)) rfl fun w3 h3 => ?_
        rw [E.out]
        exact ⟨rfl, h3⟩
    · by_cases h5 : a ≠ 1 ∧ 0 < g.n
      · have E : Hid (owesG g ⟨1, a, b, c, s, t⟩ = (⟨6, 0, 0, ⟨#[]⟩⟩, g)) := by
          show owesG g ⟨1, a, b, c, s, t⟩ = _
          rw [owesG, if_pos rfl, if_neg ha, if_neg h4, if_pos h5]
        have hd : decide (4 ≤ g.n) = false := by simpa using h4
        have hd' : decide ((4 : Int) ≤ (g.n : Int)) = false := by simp; omega
        have hd2 : decide (0 < g.n) = true := by simpa using h5.2
        have ha2 : a = 2 ∨ a = 3 := by omega
        clear ha ha' h5
        rcases ha2 with rfl | rfl
        all_goals
          go_enter Try.func46, Try.ntmps46
          go_upto_region 5 with fail
          change Code.wp Try.prog _ _ _ (doW w ⟨1, _, b, c, s, t⟩)
          generalize doW w ⟨1, _, b, c, s, t⟩ = W at HP ⊢
          have HH : Hid (Pre W w pg g ⟨1, _, b, c, s, t⟩) := HP
          obtain ⟨a0, a1, a2, a3, r0, r1, r2, r3, fa, fr⟩ := HP.pst.facts
          have c8 : W.cell? ⟨pg, 8, none⟩ = some (.int .i64 g.n) := cell_of HP.gh rfl
          clear HP
          go_wp2
          refine ow_end HH.out.pst (Chg.px (Chg.refl _ _)) rfl fun w3 h3 => ?_
          rw [E.out]
          exact ⟨rfl, h3⟩
      · have E : Hid (owesG g ⟨1, a, b, c, s, t⟩ = (⟨0, 0, 0, ⟨#[]⟩⟩, { g with kind := upd g.kind g.n a, n := g.n + 1 })) := by
          show owesG g ⟨1, a, b, c, s, t⟩ = _
          rw [owesG, if_pos rfl, if_neg ha, if_neg h4, if_neg h5]
        have hn4 : g.n < 4 := by omega
        have hd : decide (4 ≤ g.n) = false := by simpa using h4
        have hd' : decide ((4 : Int) ≤ (g.n : Int)) = false := by simp; omega
        have ha2 : a = 1 ∨ (a = 2 ∧ g.n = 0) ∨ (a = 3 ∧ g.n = 0) := by omega
        clear ha ha' h5 h4
        rcases ha2 with rfl | ⟨rfl, hz⟩ | ⟨rfl, hz⟩
        · go_enter Try.func46, Try.ntmps46
          go_upto_region 5 with fail
          change Code.wp Try.prog _ _ _ (doW w ⟨1, _, b, c, s, t⟩)
          generalize doW w ⟨1, _, b, c, s, t⟩ = W at HP ⊢
          have HH : Hid (Pre W w pg g ⟨1, _, b, c, s, t⟩) := HP
          obtain ⟨a0, a1, a2, a3, r0, r1, r2, r3, fa, fr⟩ := HP.pst.facts
          have hlt := HP.lt
          have c8 : W.cell? ⟨pg, 8, none⟩ = some (.int .i64 g.n) := cell_of HP.gh rfl
          have ck : W.cell? ⟨pg, 9 + g.n, none⟩ = some (.int .i64 (g.kind g.n)) := cell_of HP.gh (gh_kind g hn4)
          have fg : ∀ i, W.frozen? ⟨pg, i, none⟩ = false := fun _ => frozen_of HP.gh
          clear HP
          go_wp2_with fail
          go_region
          all_goals
            go_wp2
            have hg2 := (HH.out.gh.set (gs_kind g hn4 1)).set (gs_n' _ (g.n + 1) ((g.n : Int) + 1) (by simp))
            have hp2 := (HH.out.pst.next hg2 (Chg.px (Chg.px (Chg.refl _ _))))
            refine ow_end_drew hp2 (Chg.refl _ _) rfl fun w3 h3 => ?_
            rw [E.out]
            exact ⟨rfl, h3⟩
        · go_enter Try.func46, Try.ntmps46
          go_upto_region 5 with fail
          change Code.wp Try.prog _ _ _ (doW w ⟨1, _, b, c, s, t⟩)
          generalize doW w ⟨1, _, b, c, s, t⟩ = W at HP ⊢
          have HH : Hid (Pre W w pg g ⟨1, _, b, c, s, t⟩) := HP
          obtain ⟨a0, a1, a2, a3, r0, r1, r2, r3, fa, fr⟩ := HP.pst.facts
          have hlt := HP.lt
          have c8 : W.cell? ⟨pg, 8, none⟩ = some (.int .i64 0) := by have : W.cell? ⟨pg, 8, none⟩ = some (.int .i64 g.n) := cell_of HP.gh rfl; rw [hz] at this; exact this
          have ck : W.cell? ⟨pg, 9, none⟩ = some (.int .i64 (g.kind 0)) := cell_of HP.gh (gh_kind g (i := 0) (by omega))
          have fg : ∀ i, W.frozen? ⟨pg, i, none⟩ = false := fun _ => frozen_of HP.gh
          have HZ0 : Hid (g.n = 0) := hz
          clear HP hz
          go_wp2_with fail
          go_region
          all_goals
            go_wp2
            have hg2 := (HH.out.gh.set (gs_kind0 g 2)).set (gs_n' _ 1 1 (by simp))
            have hp2 := (HH.out.pst.next hg2 (Chg.px (Chg.px (Chg.refl _ _))))
            refine ow_end_drew hp2 (Chg.refl _ _) rfl fun w3 h3 => ?_
            rw [E.out, HZ0.out]
            exact ⟨rfl, h3⟩
        · go_enter Try.func46, Try.ntmps46
          go_upto_region 5 with fail
          change Code.wp Try.prog _ _ _ (doW w ⟨1, _, b, c, s, t⟩)
          generalize doW w ⟨1, _, b, c, s, t⟩ = W at HP ⊢
          have HH : Hid (Pre W w pg g ⟨1, _, b, c, s, t⟩) := HP
          obtain ⟨a0, a1, a2, a3, r0, r1, r2, r3, fa, fr⟩ := HP.pst.facts
          have hlt := HP.lt
          have c8 : W.cell? ⟨pg, 8, none⟩ = some (.int .i64 0) := by have : W.cell? ⟨pg, 8, none⟩ = some (.int .i64 g.n) := cell_of HP.gh rfl; rw [hz] at this; exact this
          have ck : W.cell? ⟨pg, 9, none⟩ = some (.int .i64 (g.kind 0)) := cell_of HP.gh (gh_kind g (i := 0) (by omega))
          have fg : ∀ i, W.frozen? ⟨pg, i, none⟩ = false := fun _ => frozen_of HP.gh
          have HZ0 : Hid (g.n = 0) := hz
          clear HP hz
          go_wp2_with fail
          go_region
          all_goals
            go_wp2
            have hg2 := (HH.out.gh.set (gs_kind0 g 3)).set (gs_n' _ 1 1 (by simp))
            have hp2 := (HH.out.pst.next hg2 (Chg.px (Chg.px (Chg.refl _ _))))
            refine ow_end_drew hp2 (Chg.refl _ _) rfl fun w3 h3 => ?_
            rw [E.out, HZ0.out]
            exact ⟨rfl, h3⟩

end Go.Proofs.Qxb6500371a.W
