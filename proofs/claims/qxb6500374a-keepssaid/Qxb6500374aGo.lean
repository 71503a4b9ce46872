import Derived.Test.Qxb6500374aGs
set_option linter.unusedVariables false
set_option linter.unusedSimpArgs false
namespace Go.Proofs.Qxb6500374a.W
open Go.RowKit Go.Maps

/-- The ghost's cells, entries as they may be. -/
structure GhC (w : World) (pg pE pH pT pK : Nat) (n : Int) (nn : Int) (H T K : Nat → Int) (A : Nat → List Nat) : Prop where
  row : w.heap[pg]? = some (.cells #[.slice (some ⟨pE, 0, none⟩) 64 64, .slice (some ⟨pH, 0, none⟩) 10 10, .slice (some ⟨pT, 0, none⟩) 10 10, .slice (some ⟨pK, 0, none⟩) 10 10, .int .i64 n, .int .i64 nn] 60 (0, 0))
  edge : BGrid w pE 64 (eF A)
  h : IGrid w pH 10 H
  t : IGrid w pT 10 T
  k : IGrid w pK 10 K
  ap : [pg, pE, pH, pT, pK].Nodup
theorem GhF.c {w : World} {pg pE pH pT pK n : Nat} {H T K : Nat → Int} {S : WS} (h : GhF w pg pE pH pT pK n H T K S) : GhC w pg pE pH pT pK n S.nn H T K S.A := ⟨h.row, h.edge, h.h, h.t, h.k, h.ap⟩
theorem GhC.f {w : World} {pg pE pH pT pK n : Nat} {H T K : Nat → Int} {S : WS} (h : GhC w pg pE pH pT pK n S.nn H T K S.A) (ho : GOk n H T K S.cn) : GhF w pg pE pH pT pK n H T K S := ⟨h.row, h.edge, h.h, h.t, h.k, ho, h.ap⟩
theorem GhC.drew {w : World} {pg pE pH pT pK : Nat} {n nn : Int} {H T K : Nat → Int} {A : Nat → List Nat} (h : GhC w pg pE pH pT pK n nn H T K A) : GhC w.drew pg pE pH pT pK n nn H T K A := ⟨h.row, h.edge, h.h, h.t, h.k, h.ap⟩
theorem GhC.drewN {w : World} {pg pE pH pT pK : Nat} {n nn : Int} {H T K : Nat → Int} {A : Nat → List Nat} (h : GhC w pg pE pH pT pK n nn H T K A) (q : Nat) : GhC (w.drewN q) pg pE pH pT pK n nn H T K A := ⟨h.row, h.edge, h.h, h.t, h.k, h.ap⟩
theorem GhC.chg {w w' : World} {bs : List Nat} {pg pE pH pT pK : Nat} {n nn : Int} {H T K : Nat → Int} {A : Nat → List Nat} (h : GhC w pg pE pH pT pK n nn H T K A) (hc : Chg bs w w') (hn : ∀ x ∈ gb pg pE pH pT pK, x ∉ bs) : GhC w' pg pE pH pT pK n nn H T K A :=
  ⟨hc.keep h.row (hn pg (by simp [gb])), h.edge.chg hc (hn pE (by simp [gb])), h.h.chg hc (hn pH (by simp [gb])), h.t.chg hc (hn pT (by simp [gb])), h.k.chg hc (hn pK (by simp [gb])), h.ap⟩
theorem GhC.lt {w : World} {pg pE pH pT pK : Nat} {n nn : Int} {H T K : Nat → Int} {A : Nat → List Nat} (h : GhC w pg pE pH pT pK n nn H T K A) : ∀ x ∈ gb pg pE pH pT pK, x < w.heap.size := by
  intro x hx
  simp [gb] at hx
  rcases hx with rfl | rfl | rfl | rfl | rfl
  · exact lt_of h.row
  · exact h.edge.lt
  · exact h.h.lt
  · exact h.t.lt
  · exact h.k.lt
section
variable {w : World} {pg pE pH pT pK : Nat} {n nn : Int} {H T K : Nat → Int} {A : Nat → List Nat} (h : GhC w pg pE pH pT pK n nn H T K A)
include h
theorem GhC.aps : (pg ≠ pE ∧ pg ≠ pH ∧ pg ≠ pT ∧ pg ≠ pK) ∧ (pE ≠ pH ∧ pE ≠ pT ∧ pE ≠ pK) ∧ (pH ≠ pT ∧ pH ≠ pK) ∧ pT ≠ pK := by
  have hap := h.ap
  simp only [List.nodup_cons, List.mem_cons, not_or, List.not_mem_nil, not_false_eq_true, List.nodup_nil, and_true] at hap
  exact hap
theorem GhC.setH {i : Nat} (hi : i < 10) (v : Int) : GhC (w.setCell ⟨pH, i, none⟩ (.int .i64 v)) pg pE pH pT pK n nn (updf H i v) T K A := by
  have hc : Chg [pH] w (w.setCell ⟨pH, i, none⟩ (.int .i64 v)) := Chg.px (Chg.refl _ _)
  obtain ⟨⟨a1, a2, a3, a4⟩, ⟨b1, b2, b3⟩, ⟨c1, c2⟩, d1⟩ := h.aps
  exact ⟨hc.keep h.row (by simp; exact a2), h.edge.chg hc (by simp; exact b1), h.h.set hi v, h.t.chg hc (by simp; exact c1.symm), h.k.chg hc (by simp; exact c2.symm), h.ap⟩
theorem GhC.setT {i : Nat} (hi : i < 10) (v : Int) : GhC (w.setCell ⟨pT, i, none⟩ (.int .i64 v)) pg pE pH pT pK n nn H (updf T i v) K A := by
  have hc : Chg [pT] w (w.setCell ⟨pT, i, none⟩ (.int .i64 v)) := Chg.px (Chg.refl _ _)
  obtain ⟨⟨a1, a2, a3, a4⟩, ⟨b1, b2, b3⟩, ⟨c1, c2⟩, d1⟩ := h.aps
  exact ⟨hc.keep h.row (by simp; exact a3), h.edge.chg hc (by simp; exact b2), h.h.chg hc (by simp; exact c1), h.t.set hi v, h.k.chg hc (by simp; exact d1.symm), h.ap⟩
theorem GhC.setK {i : Nat} (hi : i < 10) (v : Int) : GhC (w.setCell ⟨pK, i, none⟩ (.int .i64 v)) pg pE pH pT pK n nn H T (updf K i v) A := by
  have hc : Chg [pK] w (w.setCell ⟨pK, i, none⟩ (.int .i64 v)) := Chg.px (Chg.refl _ _)
  obtain ⟨⟨a1, a2, a3, a4⟩, ⟨b1, b2, b3⟩, ⟨c1, c2⟩, d1⟩ := h.aps
  exact ⟨hc.keep h.row (by simp; exact a4), h.edge.chg hc (by simp; exact b3), h.h.chg hc (by simp; exact c2), h.t.chg hc (by simp; exact d1), h.k.set hi v, h.ap⟩
theorem GhC.setN (v : Int) : GhC (w.setCell ⟨pg, 4, none⟩ (.int .i64 v)) pg pE pH pT pK v nn H T K A := by
  have hc : Chg [pg] w (w.setCell ⟨pg, 4, none⟩ (.int .i64 v)) := Chg.px (Chg.refl _ _)
  obtain ⟨⟨a1, a2, a3, a4⟩, _⟩ := h.aps
  refine ⟨?_, h.edge.chg hc (by simp; exact a1.symm), h.h.chg hc (by simp; exact a2.symm), h.t.chg hc (by simp; exact a3.symm), h.k.chg hc (by simp; exact a4.symm), h.ap⟩
  rw [heap_setCell_same _ pg 4 _ _ _ h.row]
  simp
theorem GhC.setNn (v : Int) : GhC (w.setCell ⟨pg, 5, none⟩ (.int .i64 v)) pg pE pH pT pK n v H T K A := by
  have hc : Chg [pg] w (w.setCell ⟨pg, 5, none⟩ (.int .i64 v)) := Chg.px (Chg.refl _ _)
  obtain ⟨⟨a1, a2, a3, a4⟩, _⟩ := h.aps
  refine ⟨?_, h.edge.chg hc (by simp; exact a1.symm), h.h.chg hc (by simp; exact a2.symm), h.t.chg hc (by simp; exact a3.symm), h.k.chg hc (by simp; exact a4.symm), h.ap⟩
  rw [heap_setCell_same _ pg 5 _ _ _ h.row]
  simp
theorem GhC.facts : w.cell? ⟨pg, 1, none⟩ = some (.slice (some ⟨pH, 0, none⟩) 10 10) ∧ w.cell? ⟨pg, 2, none⟩ = some (.slice (some ⟨pT, 0, none⟩) 10 10) ∧ w.cell? ⟨pg, 3, none⟩ = some (.slice (some ⟨pK, 0, none⟩) 10 10) ∧ w.cell? ⟨pg, 4, none⟩ = some (.int .i64 n) ∧ w.cell? ⟨pg, 5, none⟩ = some (.int .i64 nn) ∧ (∀ i, w.frozen? ⟨pg, i, none⟩ = false) :=
  ⟨cell_of h.row rfl, cell_of h.row rfl, cell_of h.row rfl, cell_of h.row rfl, cell_of h.row rfl, fun i => frozen_of h.row⟩
end

theorem GOk.note {n : Nat} {H T K cn : Nat → Int} (h : GOk n H T K cn) {i : Nat} (hi : i < n) : GOk n H T (updf K i (cn (rI (H i) (T i)) + 1)) (upd cn (rI (H i) (T i)) (cn (rI (H i) (T i)) + 1)) := by
  refine ⟨?_, h.inj, ?_, ?_⟩
  · intro k hk
    obtain ⟨e1, e2, e3, e4, e5, e6⟩ := h.each k hk
    refine ⟨e1, e2, e3, e4, ?_⟩
    unfold updf
    by_cases e : k = i
    · subst e
      rw [if_pos rfl, upd_same]
      exact ⟨rfl, by omega⟩
    · have hne : rI (H k) (T k) ≠ rI (H i) (T i) := fun he => e (h.inj k i hk hi he)
      rw [if_neg e, upd_ne _ _ hne]
      exact ⟨e5, e6⟩
  · intro k hk hp
    by_cases e : k = rI (H i) (T i)
    · exact ⟨i, hi, e.symm⟩
    · rw [upd_ne _ _ e] at hp
      exact h.all k hk hp
  · intro k hk
    by_cases e : k = rI (H i) (T i)
    · subst e; rw [upd_same]; have := h.pos _ hk; omega
    · rw [upd_ne _ _ e]; exact h.pos k hk
theorem GOk.add {n : Nat} {H T K cn : Nat → Int} (h : GOk n H T K cn) {a b : Nat} (hab : a ≤ b) (hb1 : 1 ≤ b) (hb4 : b ≤ 4) (h0 : cn (rj a b) = 0) (hno : ∀ i, i < n → rI (H i) (T i) ≠ rj a b) : GOk (n + 1) (updf H n a) (updf T n b) (updf K n 1) (upd cn (rj a b) (cn (rj a b) + 1)) := by
  have hr : rI (a : Int) (b : Int) = rj a b := rfl
  refine ⟨?_, ?_, ?_, ?_⟩
  · intro k hk
    unfold updf
    by_cases e : k = n
    · subst e
      simp only [if_true, hr]
      rw [upd_same]
      omega
    · simp only [if_neg e]
      obtain ⟨e1, e2, e3, e4, e5, e6⟩ := h.each k (by omega)
      rw [upd_ne _ _ (hno k (by omega))]
      exact ⟨e1, e2, e3, e4, e5, e6⟩
  · intro k l hk hl
    unfold updf
    by_cases e : k = n
    · by_cases e' : l = n
      · intro _; omega
      · simp only [if_pos e, if_neg e', hr]
        intro he
        exact absurd he.symm (hno l (by omega))
    · by_cases e' : l = n
      · simp only [if_neg e, if_pos e', hr]
        intro he
        exact absurd he (hno k (by omega))
      · simp only [if_neg e, if_neg e']
        exact h.inj k l (by omega) (by omega)
  · intro k hk hp
    by_cases e : k = rj a b
    · refine ⟨n, by omega, ?_⟩
      simp [updf, e, hr]
    · rw [upd_ne _ _ e] at hp
      obtain ⟨i, hi, he⟩ := h.all k hk hp
      refine ⟨i, by omega, ?_⟩
      simp only [updf, if_neg (show ¬ i = n by omega)]
      exact he
  · intro k hk
    by_cases e : k = rj a b
    · subst e; rw [upd_same]; omega
    · rw [upd_ne _ _ e]; exact h.pos k hk
theorem GOk.remove {n : Nat} {H T K cn : Nat → Int} (h : GOk (n + 1) H T K cn) {i : Nat} (hi : i < n + 1) : GOk n (updf H i (H n)) (updf T i (T n)) (updf K i (K n)) (upd cn (rI (H i) (T i)) 0) := by
  refine ⟨?_, ?_, ?_, ?_⟩
  · intro k hk
    unfold updf
    by_cases e : k = i
    · simp only [if_pos e]
      have hne : rI (H n) (T n) ≠ rI (H i) (T i) := fun he => by have := h.inj n i (by omega) hi he; omega
      rw [upd_ne _ _ hne]
      exact h.each n (by omega)
    · simp only [if_neg e]
      have hne : rI (H k) (T k) ≠ rI (H i) (T i) := fun he => e (h.inj k i (by omega) hi he)
      rw [upd_ne _ _ hne]
      exact h.each k (by omega)
  · intro k l hk hl
    unfold updf
    by_cases e : k = i
    · by_cases e' : l = i
      · intro _; omega
      · simp only [if_pos e, if_neg e']
        intro he
        have := h.inj n l (by omega) (by omega) he
        omega
    · by_cases e' : l = i
      · simp only [if_neg e, if_pos e']
        intro he
        have := h.inj k n (by omega) (by omega) he
        omega
      · simp only [if_neg e, if_neg e']
        exact h.inj k l (by omega) (by omega)
  · intro k hk hp
    have e : k ≠ rI (H i) (T i) := fun e => by subst e; rw [upd_same] at hp; omega
    rw [upd_ne _ _ e] at hp
    obtain ⟨x, hx, he⟩ := h.all k hk hp
    have hxi : x ≠ i := fun e' => e (by rw [← he, e'])
    by_cases hxn : x = n
    · refine ⟨i, by omega, ?_⟩
      simp only [updf, if_true]
      rw [← hxn]; exact he
    · refine ⟨x, by omega, ?_⟩
      simp only [updf, if_neg hxi]
      exact he
  · intro k hk
    by_cases e : k = rI (H i) (T i)
    · subst e; rw [upd_same]; omega
    · rw [upd_ne _ _ e]; exact h.pos k hk
end Go.Proofs.Qxb6500374a.W
