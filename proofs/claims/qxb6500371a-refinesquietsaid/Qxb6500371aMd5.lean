import Derived.Test.Qxb6500371aMd4
set_option linter.unusedVariables false
set_option linter.unusedSimpArgs false
namespace Go.Proofs.Qxb6500371a.W
open Go.RowKit Go.Maps

def heldIn (g : GS) : Prop := g.held = -1 ∨ ∃ h : Nat, h ≤ g.n ∧ g.held = h
/-- Where in Logs the store that was outermost at Hold stands. -/
def hlogI (b : Nat) (g : GS) : Int := if g.held - 1 - b < 0 then -1 else g.held - 1 - b

set_option maxRecDepth 4000 in
theorem hlog_calls {w : World} {pd b cap : Nat} {base : Int} {g : GS} {lp : Option Addr} (h : MdAt w pd b base g lp cap) (hm : GM b base g) (hh : heldIn g) :
    Calls Try.prog 88 #[pt pd] w fun x w' => x = .returned (.int .i64 (hlogI b g)) ∧ w' = w := by
  have hn4 := hm.n
  have c8 : w.cell? ⟨pd, 8, none⟩ = some (.int .i64 base) := cell_of h.row rfl
  have c14 : w.cell? ⟨pd, 14, none⟩ = some (.int .i64 g.held) := cell_of h.row rfl
  have hr : -1 ≤ g.held ∧ g.held ≤ 4 := by
    rcases hh with e | ⟨q, h1, h2⟩ <;> omega
  rcases hm.bb with ⟨rfl, rfl, _⟩ | ⟨rfl, h1, h2, h3⟩
  · clear h hm hh
    by_cases hs : g.held - 1 < 0
    · have E : Hid (hlogI 0 g = -1) := by show hlogI 0 g = _; rw [hlogI, if_pos (by simpa using hs)]
      have d : decide (g.held - 1 < 0) = true := by simpa using hs
      go_enter Try.func88, Try.ntmps88
      go_wp2
      all_goals (go_ret; exact ⟨by rw [E.out]; rfl, rfl⟩)
    · have E : Hid (hlogI 0 g = g.held - 1) := by show hlogI 0 g = _; rw [hlogI, if_neg (by simpa using hs)]; simp
      have d : decide (g.held - 1 < 0) = false := by simpa using hs
      go_enter Try.func88, Try.ntmps88
      go_wp2
      all_goals (go_ret; exact ⟨by rw [E.out]; rfl, rfl⟩)
  · have hb : (base != 0) = true := by simp; omega
    clear h hm hh h1 h2 h3
    by_cases hs : g.held - 1 - 1 < 0
    · have E : Hid (hlogI 1 g = -1) := by show hlogI 1 g = _; rw [hlogI, if_pos (by simpa using hs)]
      have d : decide (g.held - 1 - 1 < 0) = true := by simpa using hs
      go_enter Try.func88, Try.ntmps88
      go_wp2
      all_goals (go_ret; exact ⟨by rw [E.out]; rfl, rfl⟩)
    · have E : Hid (hlogI 1 g = g.held - 1 - 1) := by show hlogI 1 g = _; rw [hlogI, if_neg (by simpa using hs)]; simp
      have d : decide (g.held - 1 - 1 < 0) = false := by simpa using hs
      go_enter Try.func88, Try.ntmps88
      go_wp2
      all_goals (go_ret; exact ⟨by rw [E.out]; rfl, rfl⟩)

/-- The two cases. -/
theorem hlog_cases {b : Nat} {base : Int} {g : GS} (hm : GM b base g) (h : Nat) (hn : h ≤ g.n) (e : g.held = h) : (hlogI b g = -1 ∧ (h = 0 ∨ g.kind (h - 1) ≠ 1)) ∨ ∃ j : Nat, hlogI b g = j ∧ j < g.n - b ∧ b + j = h - 1 ∧ 0 < h ∧ g.kind (h - 1) = 1 := by
  unfold hlogI
  by_cases hs : g.held - 1 - b < 0
  · refine Or.inl ⟨if_pos hs, ?_⟩
    rcases hm.bb with ⟨rfl, _, _⟩ | ⟨rfl, h1, h2, h3⟩
    · exact Or.inl (by omega)
    · by_cases h0 : h = 0
      · exact Or.inl h0
      · have e1 : h - 1 = 0 := by omega
        exact Or.inr (by rw [e1]; omega)
  · refine Or.inr ⟨h - 1 - b, by rw [if_neg hs]; omega, by omega, by omega, by omega, hm.logs (h - 1) (by omega) (by omega)⟩

set_option maxHeartbeats 1000000 in
set_option maxRecDepth 4000 in
theorem msince_calls {w : World} {pd b cap : Nat} {base : Int} {g : GS} {lp : Option Addr} (h : MdAt w pd b base g lp cap) (hm : GM b base g) (hh : heldIn g) :
    Calls Try.prog 84 #[pt pd] w fun x w' => x = .returned (.tuple #[.int .i64 (sincedG g).1, .int .i64 (sincedG g).2]) ∧ Chg [] w w' := by
  have H : Hid (MdAt w pd b base g lp cap) := h
  have HM : Hid (GM b base g) := hm
  have HH : Hid (heldIn g) := hh
  have hn4 := hm.n
  have c14 : w.cell? ⟨pd, 14, none⟩ = some (.int .i64 g.held) := cell_of h.row rfl
  have c15 : w.cell? ⟨pd, 15, none⟩ = some (.int .i64 g.thn) := cell_of h.row rfl
  rcases hh with e | ⟨q, hq, e⟩
  · have E : Hid (sincedG g = (0, 8)) := by show sincedG g = _; rw [sincedG, if_pos (by omega)]
    rw [e] at c14
    clear h hm e
    go_enter Try.func84, Try.ntmps84
    go_wp2
    go_ret2
    exact ⟨by rw [E.out]; rfl, Chg.refl _ _⟩
  · have hc := hlog_cases hm q hq e
    have d0 : decide (g.held < 0) = false := by simp; omega
    rcases hc with ⟨h1, h2⟩ | ⟨j, h1, h2, h3, h4, h5⟩
    · have E : Hid (sincedG g = (0, 7)) := by
        show sincedG g = _
        rw [sincedG, if_neg (by omega), if_pos]
        rcases h2 with h2 | h2
        · exact Or.inl (by omega)
        · by_cases h0 : q = 0
          · exact Or.inl (by omega)
          · exact Or.inr (by rw [show (g.held - 1).toNat = q - 1 by omega]; exact h2)
      have H1 : Hid (hlogI b g = -1) := h1
      clear h hm e h1 h2
      go_enter Try.func84, Try.ntmps84
      go_wp2_with fail
      refine (hlog_calls H.out HM.out HH.out).mono ?_
      rintro x w2 ⟨rfl, hw2⟩
      obtain rfl : w = w2 := hw2.symm
      clear hw2
      rw [H1.out]
      go_wp2
      go_ret2
      exact ⟨by rw [E.out]; rfl, Chg.refl _ _⟩
    · have E : Hid (sincedG g = (wrap64 (wrap64 (g.puts (b + j) + g.dels (b + j)) - g.thn), 0)) := by
        show sincedG g = _
        rw [sincedG, if_neg (by omega), show (g.held - 1).toNat = b + j by omega, if_neg (by rw [h3]; intro z; rcases z with z | z; omega; exact z h5)]
      have H1 : Hid (hlogI b g = j) := h1
      obtain ⟨pl, cur, rfl, g1, g2, g3, g4, g5⟩ := h.pl h2
      have c13 : w.cell? ⟨pd, 13, none⟩ = some (.slice (some ⟨pl, 0, none⟩) (g.n - b : Nat) cap) := cell_of h.row rfl
      have p0 : w.cell? ⟨pl, j * 4, none⟩ = some (.int .i64 (g.puts (b + j))) := cell_of g1 (g5 j h2).1
      have p1 : w.cell? ⟨pl, j * 4 + 1, none⟩ = some (.int .i64 (g.dels (b + j))) := cell_of g1 (g5 j h2).2.1
      have hj4 : j < 4 := by omega
      clear h hm e h1 h3 h4 h5 g1 g3 g4 g5
      go_enter Try.func84, Try.ntmps84
      go_wp2_with fail
      refine (hlog_calls H.out HM.out HH.out).mono ?_
      rintro x w2 ⟨rfl, hw2⟩
      obtain rfl : w = w2 := hw2.symm
      clear hw2
      rw [H1.out]
      go_wp2_with fail
      go_quiet (fail)
      go_wp2
      go_ret2
      exact ⟨by rw [E.out]; rfl, (Chg.refl _ _).drewN _⟩

def thnG (g : GS) : Int := if 0 < g.n ∧ g.kind (g.n - 1) = 1 then wrap64 (g.puts (g.n - 1) + g.dels (g.n - 1)) else 0

set_option maxHeartbeats 1000000 in
set_option maxRecDepth 4000 in
theorem mhold_calls {w : World} {pd b cap : Nat} {base : Int} {g : GS} {lp : Option Addr} (h : MdAt w pd b base g lp cap) (hm : GM b base g) :
    Calls Try.prog 81 #[pt pd] w fun x w' => x = .returned (.int .i64 0) ∧ MStp pd b base lp cap { g with held := g.n, thn := thnG g } w w' := by
  have H : Hid (MdAt w pd b base g lp cap) := h
  have HM : Hid (GM b base g) := hm
  have hn4 := hm.n
  have c14 : w.cell? ⟨pd, 14, none⟩ = some (.int .i64 g.held) := cell_of h.row rfl
  have c15 : w.cell? ⟨pd, 15, none⟩ = some (.int .i64 g.thn) := cell_of h.row rfl
  have ff : ∀ i, w.frozen? ⟨pd, i, none⟩ = false := fun _ => frozen_of h.row
  have hm2 : GM b base { g with held := g.n, thn := 0 } := ⟨hm.n, hm.bb, hm.logs⟩
  have hc := hlog_cases hm2 g.n (Nat.le_refl _) rfl
  have HM2 : Hid (GM b base { g with held := g.n, thn := 0 }) := hm2
  have hst : MdAt ((w.setCell ⟨pd, 14, none⟩ (.int .i64 g.n)).setCell ⟨pd, 15, none⟩ (.int .i64 0)) pd b base { g with held := g.n, thn := 0 } lp cap := (h.set (ms_held _ _ _ (g.n : Int)) rfl (same4 g)).set (ms_thn _ _ _ 0) rfl (same4 g)
  have HST : Hid (MdAt ((w.setCell ⟨pd, 14, none⟩ (.int .i64 g.n)).setCell ⟨pd, 15, none⟩ (.int .i64 0)) pd b base { g with held := g.n, thn := 0 } lp cap) := hst
  rcases hc with ⟨h1, h2⟩ | ⟨j, h1, h2, h3, h4, h5⟩
  · have E : Hid (thnG g = 0) := by
      show thnG g = _
      rw [thnG, if_neg]
      rintro ⟨z1, z2⟩
      rcases h2 with h2 | h2
      · omega
      · exact h2 z2
    have H1 : Hid (hlogI b { g with held := g.n, thn := 0 } = -1) := h1
    clear h hm h1 h2 hm2 hst
    go_enter Try.func81, Try.ntmps81
    go_wp2_with fail
    refine (layers_calls H.out HM.out).mono ?_
    rintro x w2 ⟨rfl, hw2⟩
    obtain rfl : w = w2 := hw2.symm
    clear hw2
    go_wp2_with fail
    refine (hlog_calls HST.out HM2.out (Or.inr ⟨g.n, Nat.le_refl _, rfl⟩)).mono ?_
    rintro x w3 ⟨rfl, hw3⟩
    subst hw3
    rw [H1.out]
    go_wp2
    go_ret
    rw [E.out]
    exact ⟨rfl, HST.out, (((Chg.refl _ w).setCell (Or.inl (by simp)) _).setCell (Or.inl (by simp)) _)⟩
  · have h2' : j < g.n - b := h2
    have h3' : b + j = g.n - 1 := h3
    have E : Hid (thnG g = wrap64 (g.puts (b + j) + g.dels (b + j))) := by
      show thnG g = _
      rw [thnG, if_pos ⟨h4, h5⟩, h3']
    have H1 : Hid (hlogI b { g with held := g.n, thn := 0 } = j) := h1
    obtain ⟨pl, cur, rfl, g1, g2, g3, g4, g5⟩ := h.pl h2'
    have c13 : w.cell? ⟨pd, 13, none⟩ = some (.slice (some ⟨pl, 0, none⟩) (g.n - b : Nat) cap) := cell_of h.row rfl
    have p0 : w.cell? ⟨pl, j * 4, none⟩ = some (.int .i64 (g.puts (b + j))) := cell_of g1 (g5 j h2').1
    have p1 : w.cell? ⟨pl, j * 4 + 1, none⟩ = some (.int .i64 (g.dels (b + j))) := cell_of g1 (g5 j h2').2.1
    have hj4 : j < 4 := by omega
    have g4' : pd ≠ pl := g4.symm
    clear h hm h1 h2 h3 h4 h5 g1 g3 g5 hm2 hst h3'
    go_enter Try.func81, Try.ntmps81
    go_wp2_with fail
    refine (layers_calls H.out HM.out).mono ?_
    rintro x w2 ⟨rfl, hw2⟩
    obtain rfl : w = w2 := hw2.symm
    clear hw2
    go_wp2_with fail
    refine (hlog_calls HST.out HM2.out (Or.inr ⟨g.n, Nat.le_refl _, rfl⟩)).mono ?_
    rintro x w3 ⟨rfl, hw3⟩
    subst hw3
    rw [H1.out]
    go_wp2_with fail
    go_region
    all_goals
      go_wp2
      go_ret
      rw [E.out]
      have q := (HST.out.set (ms_thn _ _ _ (wrap64 (g.puts (b + j) + g.dels (b + j)))) rfl (same4 g)).chg (bs := []) ((Chg.refl _ _).drew) (by simp)
      exact ⟨rfl, q, ((((Chg.refl _ w).setCell (Or.inl (by simp)) _).setCell (Or.inl (by simp)) _).setCell (Or.inl (by simp)) _).drew⟩
end Go.Proofs.Qxb6500371a.W
