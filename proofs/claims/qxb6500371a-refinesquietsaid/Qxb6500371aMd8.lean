import Derived.Test.Qxb6500371aMd6
set_option linter.unusedVariables false
set_option linter.unusedSimpArgs false
namespace Go.Proofs.Qxb6500371a.W
open Go.RowKit Go.Maps

/-- The counters: at most N each; what was counted by Hold is no more than what is counted now. -/
structure Cnt (N : Nat) (g : GS) : Prop where
  num : ∀ i, 0 ≤ g.puts i ∧ g.puts i ≤ N ∧ 0 ≤ g.dels i ∧ g.dels i ≤ N
  thn : ∀ h : Nat, g.held = h → 0 < h → g.kind (h - 1) = 1 → 0 ≤ g.thn ∧ g.thn ≤ g.puts (h - 1) + g.dels (h - 1)
  none : ∀ h : Nat, g.held = h → (h = 0 ∨ g.kind (h - 1) ≠ 1) → g.thn = 0
  no : g.held < 0 → g.thn = 0

set_option maxHeartbeats 4000000 in
set_option maxRecDepth 4000 in
theorem mcheck_calls {w : World} {pd b cap : Nat} {base : Int} {g : GS} {lp : Option Addr} (h : MdAt w pd b base g lp cap) (hm : GM b base g) (hh : heldIn g) {N : Nat} (hN : N ≤ 4398046511104) (hc : Cnt N g) (hk : g.c.full = true → ∃ i : Nat, i < 4 ∧ g.c.key = i ∧ g.m.has i = true) :
    Calls Try.prog 72 #[pt pd] w fun x w' => x = .returned (.bool true) ∧ Chg [] w w' := by
  have H : Hid (MdAt w pd b base g lp cap) := h
  have HM : Hid (GM b base g) := hm
  have HH : Hid (heldIn g) := hh
  have HK : Hid (g.c.full = true → ∃ i : Nat, i < 4 ∧ g.c.key = i ∧ g.m.has i = true) := hk
  have hn4 := hm.n
  have c8 : w.cell? ⟨pd, 8, none⟩ = some (.int .i64 base) := cell_of h.row rfl
  have c9 : w.cell? ⟨pd, 9, none⟩ = some (.int .i64 g.c.hits) := cell_of h.row rfl
  have c10 : w.cell? ⟨pd, 10, none⟩ = some (.bool g.c.full) := cell_of h.row rfl
  have c11 : w.cell? ⟨pd, 11, none⟩ = some (.int .i64 g.c.key) := cell_of h.row rfl
  have c13 : w.cell? ⟨pd, 13, none⟩ = some (.slice lp (g.n - b : Nat) cap) := cell_of h.row rfl
  have c14 : w.cell? ⟨pd, 14, none⟩ = some (.int .i64 g.held) := cell_of h.row rfl
  have c15 : w.cell? ⟨pd, 15, none⟩ = some (.int .i64 g.thn) := cell_of h.row rfl
  have hr : -1 ≤ g.held ∧ g.held ≤ g.n := by rcases hh with e | ⟨q, h1, h2⟩ <;> omega
  have d1 : decide ((4 : Int) < (g.n : Int)) = false := by simp; omega
  have d1' : decide (4 < g.n) = false := by simp; omega
  have d2 : decide (g.held < -1) = false := by simp; omega
  have d3 : decide ((g.n : Int) < g.held) = false := by simp; omega
  have hbase : ((base == 0) = false) ∨ (base = 0 ∧ g.c.hits = 0 ∧ g.c.full = false) := by
    rcases hm.bb with ⟨_, h1, h2⟩ | ⟨_, _, _, h3⟩
    · exact Or.inr ⟨h1, by rw [h2], by rw [h2]⟩
    · exact Or.inl (by simp; omega)
  -- where the held store stands
  have hcs : (hlogI b g = -1 ∧ g.thn = 0) ∨ ∃ (j pl : Nat), hlogI b g = j ∧ j < g.n - b ∧ lp = some ⟨pl, 0, none⟩ ∧ w.cell? ⟨pl, j * 4, none⟩ = some (.int .i64 (g.puts (b + j))) ∧ w.cell? ⟨pl, j * 4 + 1, none⟩ = some (.int .i64 (g.dels (b + j))) ∧
      decide (g.thn < 0) = false ∧ decide (wrap64 (g.puts (b + j) + g.dels (b + j)) < g.thn) = false ∧ j < 4 := by
    rcases hh with e | ⟨q, hq, e⟩
    · refine Or.inl ⟨by rw [hlogI, if_pos (by omega)], hc.no (by omega)⟩
    · rcases hlog_cases hm q hq e with ⟨h1, h2⟩ | ⟨j, h1, h2, h3, h4, h5⟩
      · exact Or.inl ⟨h1, hc.none q e h2⟩
      · obtain ⟨pl, cur, hl, g1, g2, g3, g4, g5⟩ := h.pl h2
        obtain ⟨t1, t2⟩ := hc.thn q e h4 h5
        obtain ⟨n1, n2, n3, n4⟩ := hc.num (b + j)
        have hw : wrap64 (g.puts (b + j) + g.dels (b + j)) = g.puts (b + j) + g.dels (b + j) := by unfold wrap64; omega
        refine Or.inr ⟨j, pl, h1, h2, hl, cell_of g1 (g5 j h2).1, cell_of g1 (g5 j h2).2.1, by simp; omega, ?_, by omega⟩
        rw [hw, h3]
        simp
        omega
  clear h hm hh hc hk
  have hfl : g.c.full = false ∨ ∃ i : Nat, i < 4 ∧ g.c.full = true ∧ g.c.key = i ∧ w.cell? ⟨pd, i, none⟩ = some (.bool true) := by
    cases hf : g.c.full with
    | false => exact Or.inl rfl
    | true =>
      obtain ⟨i, hi, e, hhas⟩ := HK.out hf
      exact Or.inr ⟨i, hi, rfl, e, by rw [← hhas]; exact cell_of H.out.row (md_has _ _ _ hi)⟩
  clear HK
  rcases hcs with ⟨h1, h2⟩ | ⟨j, pl, h1, h2, rfl, p0, p1, t1, t2, hj4⟩
  · have H1 : Hid (hlogI b g = -1) := h1
    rw [h2] at c15
    clear h1 h2
    rcases hfl with hf | ⟨i, hi, hf, hky, ci⟩
    · rw [hf] at c10
      rcases hbase with hb | ⟨hb, hz, _⟩
      · go_enter Try.func72, Try.ntmps72
        go_wp2_with fail
        refine (layers_calls H.out HM.out).mono ?_
        rintro x w2 ⟨rfl, hw2⟩
        obtain rfl : w = w2 := hw2.symm
        clear hw2
        go_wp2_with fail
        refine (hlog_calls H.out HM.out HH.out).mono ?_
        rintro x w2 ⟨rfl, hw2⟩
        obtain rfl : w = w2 := hw2.symm
        clear hw2
        rw [H1.out]
        go_wp2_with fail
        go_quiet (fail)
        go_wp2
        go_ret
        exact ⟨rfl, (Chg.refl _ _).drewN _⟩
      · rw [hb] at c8
        rw [hz] at c9
        clear hb hz
        go_enter Try.func72, Try.ntmps72
        go_wp2_with fail
        refine (layers_calls H.out HM.out).mono ?_
        rintro x w2 ⟨rfl, hw2⟩
        obtain rfl : w = w2 := hw2.symm
        clear hw2
        go_wp2_with fail
        refine (hlog_calls H.out HM.out HH.out).mono ?_
        rintro x w2 ⟨rfl, hw2⟩
        obtain rfl : w = w2 := hw2.symm
        clear hw2
        rw [H1.out]
        go_wp2_with fail
        go_quiet (fail)
        go_wp2
        go_ret
        exact ⟨rfl, (Chg.refl _ _).drewN _⟩
    · rw [hf] at c10
      rw [hky] at c11
      have hb : (base == 0) = false := by
        rcases hbase with hb | ⟨_, _, hb⟩
        · exact hb
        · rw [hf] at hb; cases hb
      clear hbase hf hky
      go_enter Try.func72, Try.ntmps72
      go_wp2_with fail
      refine (layers_calls H.out HM.out).mono ?_
      rintro x w2 ⟨rfl, hw2⟩
      obtain rfl : w = w2 := hw2.symm
      clear hw2
      go_wp2_with fail
      refine (hlog_calls H.out HM.out HH.out).mono ?_
      rintro x w2 ⟨rfl, hw2⟩
      obtain rfl : w = w2 := hw2.symm
      clear hw2
      rw [H1.out]
      go_wp2_with fail
      go_quiet (fail)
      go_wp2_with fail
      go_quiet (fail)
      go_wp2
      go_ret
      exact ⟨rfl, ((Chg.refl _ _).drewN _).drewN _⟩
  · have H1 : Hid (hlogI b g = j) := h1
    clear h1
    rcases hfl with hf | ⟨i, hi, hf, hky, ci⟩
    · rw [hf] at c10
      rcases hbase with hb | ⟨hb, hz, _⟩
      · go_enter Try.func72, Try.ntmps72
        go_wp2_with fail
        refine (layers_calls H.out HM.out).mono ?_
        rintro x w2 ⟨rfl, hw2⟩
        obtain rfl : w = w2 := hw2.symm
        clear hw2
        go_wp2_with fail
        refine (hlog_calls H.out HM.out HH.out).mono ?_
        rintro x w2 ⟨rfl, hw2⟩
        obtain rfl : w = w2 := hw2.symm
        clear hw2
        rw [H1.out]
        go_wp2_with fail
        go_quiet (fail)
        go_wp2
        go_ret
        exact ⟨rfl, (Chg.refl _ _).drewN _⟩
      · rw [hb] at c8
        rw [hz] at c9
        clear hb hz
        go_enter Try.func72, Try.ntmps72
        go_wp2_with fail
        refine (layers_calls H.out HM.out).mono ?_
        rintro x w2 ⟨rfl, hw2⟩
        obtain rfl : w = w2 := hw2.symm
        clear hw2
        go_wp2_with fail
        refine (hlog_calls H.out HM.out HH.out).mono ?_
        rintro x w2 ⟨rfl, hw2⟩
        obtain rfl : w = w2 := hw2.symm
        clear hw2
        rw [H1.out]
        go_wp2_with fail
        go_quiet (fail)
        go_wp2
        go_ret
        exact ⟨rfl, (Chg.refl _ _).drewN _⟩
    · rw [hf] at c10
      rw [hky] at c11
      have hb : (base == 0) = false := by
        rcases hbase with hb | ⟨_, _, hb⟩
        · exact hb
        · rw [hf] at hb; cases hb
      clear hbase hf hky
      go_enter Try.func72, Try.ntmps72
      go_wp2_with fail
      refine (layers_calls H.out HM.out).mono ?_
      rintro x w2 ⟨rfl, hw2⟩
      obtain rfl : w = w2 := hw2.symm
      clear hw2
      go_wp2_with fail
      refine (hlog_calls H.out HM.out HH.out).mono ?_
      rintro x w2 ⟨rfl, hw2⟩
      obtain rfl : w = w2 := hw2.symm
      clear hw2
      rw [H1.out]
      go_wp2_with fail
      go_quiet (fail)
      go_wp2_with fail
      go_quiet (fail)
      go_wp2
      go_ret
      exact ⟨rfl, ((Chg.refl _ _).drewN _).drewN _⟩
end Go.Proofs.Qxb6500371a.W
