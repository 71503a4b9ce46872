import Derived.Test.Qxb6500371aMd2
set_option linter.unusedVariables false
set_option linter.unusedSimpArgs false
namespace Go.Proofs.Qxb6500371a.W
open Go.RowKit Go.Maps

theorem GM.m {b : Nat} {base : Int} {g : GS} (h : GM b base g) (m' : MS) : GM b base { g with m := m' } := ⟨h.n, h.bb, h.logs⟩
theorem lim_base {b : Nat} {base : Int} {g : GS} (h : GM b base g) {fr : Nat} (hf : fr ≤ g.n) : (0 < fr ∧ g.kind 0 = 3) ↔ (base = 3 ∧ 0 < fr) := by
  rcases h.bb with ⟨h1, h2, _⟩ | ⟨h1, h2, h3, h4⟩
  · constructor
    · rintro ⟨a, c⟩
      have := h.logs 0 (by omega) (by omega)
      omega
    · rintro ⟨a, c⟩; omega
  · constructor
    · rintro ⟨a, c⟩; exact ⟨by omega, a⟩
    · rintro ⟨a, c⟩; exact ⟨c, by omega⟩

set_option maxHeartbeats 4000000 in
set_option maxRecDepth 4000 in
theorem mput_calls {w : World} {pd b cap : Nat} {base : Int} {g : GS} {lp : Option Addr} (h : MdAt w pd b base g lp cap) (hm : GM b base g) (k v : Int) (fr : Nat) (hf : fr ≤ g.n) :
    Calls Try.prog 90 #[pt pd, .int .i64 k, .int .i64 v, .int .i64 fr] w fun x w' => x = .returned (.int .i64 (laidG g fr k v).1) ∧ MdAt w' pd b base (laidG g fr k v).2 lp cap ∧ Chg (pd :: ownB lp) w w' := by
  have H : Hid (MdAt w pd b base g lp cap) := h
  have HM : Hid (GM b base g) := hm
  have hn4 := hm.n
  have c8 : w.cell? ⟨pd, 8, none⟩ = some (.int .i64 base) := cell_of h.row rfl
  have ff : ∀ i, w.frozen? ⟨pd, i, none⟩ = false := fun _ => frozen_of h.row
  by_cases hbd : k < 0 ∨ 4 ≤ k
  · have E : Hid (laidG g fr k v = (1, g)) := by show laidG g fr k v = _; rw [laidG, if_neg (by simp [inB]; omega)]
    have er : Hid (rowR g.m k = (0, 0, 1)) := rowR_bad hbd
    clear h hm
    go_enter Try.func90, Try.ntmps90
    go_wp2_with fail
    refine (table_calls H.out k).mono ?_
    rintro x w2 ⟨rfl, hw2⟩
    obtain rfl : w = w2 := hw2.symm
    clear hw2
    rw [er.out]
    go_wp2
    go_ret
    rw [E.out]
    exact ⟨rfl, H.out, Chg.refl _ _⟩
  · obtain ⟨i, rfl⟩ : ∃ i : Nat, k = i := ⟨k.toNat, by omega⟩
    have hi : i < 4 := by omega
    have ci : w.cell? ⟨pd, i, none⟩ = some (.bool (g.m.has i)) := cell_of h.row (md_has _ _ _ hi)
    have cv : w.cell? ⟨pd, 4 + i, none⟩ = some (.int .i64 (g.m.val i)) := cell_of h.row (md_val _ _ _ hi)
    have e0 : laidG g fr (i : Int) v = if 0 < fr ∧ g.kind 0 = 3 ∧ g.m.has i = false ∧ 2 ≤ g.m.cnt then (3, g) else (0, turnG { g with m := (g.m.setHas i true).setVal i v } 80 i fr) := by
      rw [laidG, if_pos (by simp [inB]; omega), putM_in hi]; simp
    have hlb := lim_base hm hf
    have hr2 : (rowR g.m (i : Int)).2.2 = if g.m.has i then 0 else 2 := by rw [rowR_in hi]; split <;> rfl
    have hre : Hid ((rowR g.m (i : Int)).2.2 = if g.m.has i then 0 else 2) := hr2
    generalize hz : (rowR g.m (i : Int)).2.2 = z at hr2
    have HZ : Hid ((rowR g.m (i : Int)).2.2 = z) := hz
    clear h hm hbd hz
    by_cases hl : 0 < fr ∧ g.kind 0 = 3 ∧ g.m.has i = false ∧ 2 ≤ g.m.cnt
    · have E : Hid (laidG g fr (i : Int) v = (3, g)) := by show laidG g fr (i : Int) v = _; rw [e0, if_pos hl]
      have hb3 := (hlb.1 ⟨hl.1, hl.2.1⟩).1
      rw [hb3] at c8
      have hz2 : z = 2 := by rw [hr2, hl.2.2.1]; rfl
      subst hz2
      have d1 : decide (0 < fr) = true := by simpa using hl.1
      have d2 : decide ((2 : Int) ≤ (g.m.cnt : Int)) = true := by simp; omega
      have d3 : decide (2 ≤ g.m.cnt) = true := by simpa using hl.2.2.2
      clear e0 hl hlb hb3 hre hr2
      go_enter Try.func90, Try.ntmps90
      go_wp2_with fail
      refine (table_calls H.out _).mono ?_
      rintro x w2 ⟨rfl, hw2⟩
      obtain rfl : w = w2 := hw2.symm
      clear hw2
      rw [HZ.out]
      go_wp2_with fail
      refine (mlen_calls H.out).mono ?_
      rintro x w2 ⟨rfl, hw2⟩
      obtain rfl : w = w2 := hw2.symm
      clear hw2
      go_wp2
      go_ret
      rw [E.out]
      exact ⟨rfl, H.out, Chg.refl _ _⟩
    · have E : Hid (laidG g fr (i : Int) v = (0, turnG { g with m := (g.m.setHas i true).setVal i v } 80 i fr)) := by show laidG g fr (i : Int) v = _; rw [e0, if_neg hl]
      have hz1 : (z == 1) = false := by
        rw [hr2]
        split <;> rfl
      have hcs : ((base == 3) = false) ∨ ((base == 3) = true ∧ fr = 0) ∨ ((base == 3) = true ∧ decide (0 < fr) = true ∧ (z == 2) = false) ∨ ((base == 3) = true ∧ decide (0 < fr) = true ∧ (z == 2) = true ∧ decide (2 ≤ g.m.cnt) = false ∧ decide ((2 : Int) ≤ (g.m.cnt : Int)) = false) := by
        by_cases a2 : base = 3
        · have a2' : (base == 3) = true := by simpa using a2
          by_cases a1 : 0 < fr
          · have a1' : decide (0 < fr) = true := by simpa using a1
            have hk3 := (hlb.2 ⟨a2, a1⟩).2
            cases a3 : g.m.has i with
            | true => exact Or.inr (Or.inr (Or.inl ⟨a2', a1', by rw [hr2, a3]; rfl⟩))
            | false =>
              have a4 : ¬ 2 ≤ g.m.cnt := fun q => hl ⟨a1, hk3, a3, q⟩
              exact Or.inr (Or.inr (Or.inr ⟨a2', a1', by rw [hr2, a3]; rfl, by simp; omega, by simp; omega⟩))
          · exact Or.inr (Or.inl ⟨a2', by omega⟩)
        · exact Or.inl (by simpa using a2)
      clear e0 hl hlb hre hr2
      rcases hcs with q1 | ⟨q1, rfl⟩ | ⟨q1, q2, q3⟩ | ⟨q1, q2, q3, q4, q5⟩
      all_goals
        go_enter Try.func90, Try.ntmps90
        go_wp2_with fail
        refine (table_calls H.out _).mono ?_
        rintro x w2 ⟨rfl, hw2⟩
        obtain rfl : w = w2 := hw2.symm
        clear hw2
        rw [HZ.out]
        go_wp2_with fail
        refine (mlen_calls H.out).mono ?_
        rintro x w2 ⟨rfl, hw2⟩
        obtain rfl : w = w2 := hw2.symm
        clear hw2
        go_wp2_with fail
        go_region
        all_goals
          go_wp2_with fail
          have hst := (H.out.set (ms_has _ _ _ hi true) rfl (same4 g)).set (ms_val _ _ _ hi v) rfl (same4 g)
          have hst2 := hst.chg (bs := []) ((Chg.refl _ _).drew) (by simp)
          refine (mturn_loop hst2 (HM.out.m _) 80 i _ hf).mono ?_
          rintro x w3 ⟨rfl, hg3, hc3⟩
          have HG3 : Hid _ := hg3
          have HC3 : Hid (Chg (pd :: ownB lp) w w3) := ((((Chg.refl _ w).setCell (Or.inl (by simp)) _).setCell (Or.inl (by simp)) _).drew).trans hc3
          clear hg3 hc3 hst hst2
          go_wp2
          go_ret
          rw [E.out]
          exact ⟨rfl, HG3.out, HC3.out⟩
end Go.Proofs.Qxb6500371a.W
