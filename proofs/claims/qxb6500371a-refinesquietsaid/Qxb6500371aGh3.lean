import Derived.Test.Qxb6500371aGh2
set_option linter.unusedVariables false
set_option linter.unusedSimpArgs false
namespace Go.Proofs.Qxb6500371a.W
open Go.RowKit Go.Maps

def turn1 (g : GS) (ev k : Int) (i : Nat) : GS :=
  if g.kind i ≠ 1 then (if g.c.key = k then { g with c := { g.c with full := false } } else g)
  else if ev = 80 then { g with puts := upd g.puts i (wrap64 (g.puts i + 1)), ev := upd g.ev i ev, evk := upd g.evk i k }
  else { g with dels := upd g.dels i (wrap64 (g.dels i + 1)), ev := upd g.ev i ev, evk := upd g.evk i k }
def turnG (g : GS) (ev k : Int) : Nat → GS
  | 0 => g
  | j + 1 => turn1 (turnG g ev k j) ev k j

set_option maxHeartbeats 2000000 in
set_option maxRecDepth 4000 in
theorem turned_calls {w : World} {pg : Nat} {g : GS} (h : GhAt w pg g) (ev k : Int) (fr : Nat) (hf : fr ≤ 4) :
    Calls Try.prog 66 #[pt pg, .int .i64 ev, .int .i64 k, .int .i64 fr] w fun e w' => e = .returned (.tuple #[]) ∧ GhAt w' pg (turnG g ev k fr) ∧ Chg [pg] w w' := by
  have H : Hid (GhAt w pg g) := h
  clear h
  go_enter Try.func66, Try.ntmps66
  go_wp2
  go_loopw [8] (fun v8 wr => ∃ j : Nat, j ≤ fr ∧ v8 = .int .i64 j ∧ GhAt wr pg (turnG g ev k j) ∧ Chg [pg] w wr) (fun v8 _ => ((fr : Int) - intOf v8).toNat)
  case atStart => exact ⟨0, by omega, rfl, H.out, Chg.refl _ _⟩
  case round =>
    obtain ⟨j, hj, rfl, hg, hc⟩ := hrel
    have HC : Hid (Chg [pg] w wr) := hc
    have HG : Hid (GhAt wr pg (turnG g ev k j)) := hg
    by_cases hjf : j < fr
    · have hj4 : j < 4 := by omega
      generalize hgg : turnG g ev k j = g1 at hg
      have HE : Hid (turnG g ev k j = g1) := hgg
      have c9 : wr.cell? ⟨pg, 9 + j, none⟩ = some (.int .i64 (g1.kind j)) := cell_of hg (gh_kind g1 hj4)
      have c13 : wr.cell? ⟨pg, 13 + j, none⟩ = some (.int .i64 (g1.puts j)) := cell_of hg (gh_puts g1 hj4)
      have c17 : wr.cell? ⟨pg, 17 + j, none⟩ = some (.int .i64 (g1.dels j)) := cell_of hg (gh_dels g1 hj4)
      have c21 : wr.cell? ⟨pg, 21 + j, none⟩ = some (.int .i64 (g1.ev j)) := cell_of hg (gh_ev g1 hj4)
      have c25 : wr.cell? ⟨pg, 25 + j, none⟩ = some (.int .i64 (g1.evk j)) := cell_of hg (gh_evk g1 hj4)
      have c30 : wr.cell? ⟨pg, 30, none⟩ = some (.bool g1.c.full) := cell_of hg rfl
      have c31 : wr.cell? ⟨pg, 31, none⟩ = some (.int .i64 g1.c.key) := cell_of hg rfl
      have ff : ∀ i, wr.frozen? ⟨pg, i, none⟩ = false := fun i => frozen_of hg
      have HG1 : Hid (GhAt wr pg g1) := hg
      clear hc hg hgg
      by_cases hkd : g1.kind j = 1
      · rw [hkd] at c9
        by_cases hev : ev = 80
        · have e : turnG g ev k (j + 1) = { g1 with puts := upd g1.puts j (wrap64 (g1.puts j + 1)), ev := upd g1.ev j ev, evk := upd g1.evk j k } := by
            rw [turnG, HE.out, turn1, if_neg (by simp [hkd]), if_pos hev]
          have E : Hid (turnG g ev k (j + 1) = { g1 with puts := upd g1.puts j (wrap64 (g1.puts j + 1)), ev := upd g1.ev j ev, evk := upd g1.evk j k }) := e
          have hev' : (ev == 80) = true := by simpa using hev
          clear e hev
          go_wp2
          go_region
          all_goals
            go_wp2
            refine ⟨⟨j + 1, by omega, by simp, ?_, ?_⟩, by simp [intOf]; omega⟩
            · rw [E.out]
              have := ((HG1.out.set (gs_puts g1 hj4 (wrap64 (g1.puts j + 1)))).set (gs_ev _ hj4 ev)).set (gs_evk _ hj4 k)
              exact this
            · exact (Chg.px (Chg.px (Chg.px HC.out))).drew
        · have e : turnG g ev k (j + 1) = { g1 with dels := upd g1.dels j (wrap64 (g1.dels j + 1)), ev := upd g1.ev j ev, evk := upd g1.evk j k } := by
            rw [turnG, HE.out, turn1, if_neg (by simp [hkd]), if_neg hev]
          have E : Hid (turnG g ev k (j + 1) = { g1 with dels := upd g1.dels j (wrap64 (g1.dels j + 1)), ev := upd g1.ev j ev, evk := upd g1.evk j k }) := e
          have hev' : (ev == 80) = false := by simpa using hev
          clear e hev
          go_wp2
          go_region
          all_goals
            go_wp2
            refine ⟨⟨j + 1, by omega, by simp, ?_, ?_⟩, by simp [intOf]; omega⟩
            · rw [E.out]
              have := ((HG1.out.set (gs_dels g1 hj4 (wrap64 (g1.dels j + 1)))).set (gs_ev _ hj4 ev)).set (gs_evk _ hj4 k)
              exact this
            · exact (Chg.px (Chg.px (Chg.px HC.out))).drew
      · have hkd' : (g1.kind j != 1) = true := by simpa using hkd
        by_cases hky : g1.c.key = k
        · have e : turnG g ev k (j + 1) = { g1 with c := { g1.c with full := false } } := by
            rw [turnG, HE.out, turn1, if_pos hkd, if_pos hky]
          have E : Hid (turnG g ev k (j + 1) = { g1 with c := { g1.c with full := false } }) := e
          have hky' : (g1.c.key == k) = true := by simpa using hky
          clear e hky
          go_wp2
          refine ⟨⟨j + 1, by omega, by simp, ?_, Chg.px HC.out⟩, by simp [intOf]; omega⟩
          rw [E.out]
          exact HG1.out.set (gs_full g1 false)
        · have e : turnG g ev k (j + 1) = g1 := by
            rw [turnG, HE.out, turn1, if_pos hkd, if_neg hky]
          have E : Hid (turnG g ev k (j + 1) = g1) := e
          have hky' : (g1.c.key == k) = false := by simpa using hky
          clear e hky
          go_wp2
          refine ⟨⟨j + 1, by omega, by simp, ?_, HC.out⟩, by simp [intOf]; omega⟩
          rw [E.out]
          exact HG1.out
    · have e : j = fr := by omega
      have E : Hid (j = fr) := e
      clear hg hc e
      go_wp2
      go_end0
      refine ⟨rfl, ?_, HC.out⟩
      rw [← E.out]
      exact HG.out
end Go.Proofs.Qxb6500371a.W
