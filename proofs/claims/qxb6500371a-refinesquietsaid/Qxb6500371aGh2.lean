import Derived.Test.Qxb6500371aGh
set_option linter.unusedVariables false
set_option linter.unusedSimpArgs false
namespace Go.Proofs.Qxb6500371a.W
open Go.RowKit Go.Maps

def anyS (g : GS) : Nat → Bool
  | 0 => false
  | j + 1 => (g.kind j != 1) || anyS g j

def gotG (g : GS) (fr : Nat) (k : Int) : Int × Int × GS :=
  if anyS g fr = true ∧ g.c.full = true ∧ g.c.key = k then (g.c.val, 0, { g with c := { g.c with hits := wrap64 (g.c.hits + 1) } })
  else if (rowR g.m k).2.2 = 0 then ((rowR g.m k).2.1, 0, if anyS g fr = true then { g with c := { g.c with full := true, key := k, val := (rowR g.m k).2.1 } } else g)
  else (0, (rowR g.m k).2.2, g)

set_option maxHeartbeats 2000000 in
set_option maxRecDepth 4000 in
theorem got_calls {w : World} {pg : Nat} {g : GS} (h : GhAt w pg g) (fr : Nat) (hf : fr ≤ 4) (k : Int) :
    Calls Try.prog 64 #[pt pg, .int .i64 fr, .int .i64 k] w fun e w' => e = .returned (.tuple #[.int .i64 (gotG g fr k).1, .int .i64 (gotG g fr k).2.1]) ∧ GhAt w' pg (gotG g fr k).2.2 ∧ Chg [pg] w w' := by
  have H : Hid (GhAt w pg g) := h
  have c29 : w.cell? ⟨pg, 29, none⟩ = some (.int .i64 g.c.hits) := cell_of h rfl
  have c30 : w.cell? ⟨pg, 30, none⟩ = some (.bool g.c.full) := cell_of h rfl
  have c31 : w.cell? ⟨pg, 31, none⟩ = some (.int .i64 g.c.key) := cell_of h rfl
  have c32 : w.cell? ⟨pg, 32, none⟩ = some (.int .i64 g.c.val) := cell_of h rfl
  have f29 : w.frozen? ⟨pg, 29, none⟩ = false := frozen_of h
  have f30 : w.frozen? ⟨pg, 30, none⟩ = false := frozen_of h
  have f31 : w.frozen? ⟨pg, 31, none⟩ = false := frozen_of h
  have f32 : w.frozen? ⟨pg, 32, none⟩ = false := frozen_of h
  clear h
  go_enter Try.func64, Try.ntmps64
  go_wp2
  go_loopw [8, 9] (fun v8 v9 wr => ∃ (j : Nat) (b : Bool), j ≤ fr ∧ v9 = .int .i64 ((j : Int) - 1) ∧ v8 = .bool b ∧ (b || anyS g j) = anyS g fr ∧ wr = w) (fun _ v9 _ => (intOf v9 + 1).toNat)
  case atStart => exact ⟨fr, false, by omega, rfl, rfl, rfl, rfl⟩
  case round =>
    obtain ⟨j, b, hj, rfl, rfl, hb, rfl⟩ := hrel
    cases j with
    | succ i =>
      have ci : wr.cell? ⟨pg, 9 + i, none⟩ = some (.int .i64 (g.kind i)) := cell_of H.out (gh_kind g (by omega))
      have HB : Hid ((b || anyS g (i + 1)) = anyS g fr) := hb
      have e : ((i + 1 : Nat) : Int) - 1 = i := by omega
      rw [e]
      clear hb e
      go_wp2_with fail
      refine (says_calls _ _).mono ?_
      rintro x w2 ⟨rfl, rfl⟩
      by_cases hs : g.kind i = 1
      · have hs' : (g.kind i != 1) = false := by simp [hs]
        go_wp2
        refine ⟨⟨i, b, by omega, rfl, rfl, ?_, trivial⟩, by simp [intOf]⟩
        rw [← HB.out, anyS, hs']
        simp
      · have hs' : (g.kind i != 1) = true := by simp [hs]
        go_wp2
        refine ⟨⟨i, true, by omega, rfl, rfl, ?_, trivial⟩, by simp [intOf]⟩
        rw [← HB.out, anyS, hs']
        simp
    | zero =>
      have hb' : b = anyS g fr := by simpa [anyS] using hb
      have hneg : ((0 : Nat) : Int) - 1 = -1 := by omega
      rw [hneg]
      clear hb hneg
      by_cases hit : anyS g fr = true ∧ g.c.full = true ∧ g.c.key = k
      · have e : gotG g fr k = (g.c.val, 0, { g with c := { g.c with hits := wrap64 (g.c.hits + 1) } }) := by rw [gotG, if_pos hit]
        have E0 : Hid (gotG g fr k = (g.c.val, 0, { g with c := { g.c with hits := wrap64 (g.c.hits + 1) } })) := e
        obtain ⟨h1, h2, h3⟩ := hit
        rw [h1] at hb'
        subst hb'
        rw [h2] at c30
        have hk : (g.c.key == k) = true := by simpa using h3
        clear e h1 h2 h3
        go_wp2
        go_ret2
        rw [E0.out]
        exact ⟨rfl, H.out.set (gs_hits g _), (Chg.refl _ _).setCell (Or.inl (by simp)) _⟩
      · have e : gotG g fr k = if (rowR g.m k).2.2 = 0 then ((rowR g.m k).2.1, 0, if anyS g fr = true then { g with c := { g.c with full := true, key := k, val := (rowR g.m k).2.1 } } else g) else (0, (rowR g.m k).2.2, g) := by rw [gotG, if_neg hit]
        have E : Hid _ := e
        clear e
        by_cases hbd : k < 0 ∨ 4 ≤ k
        · have e2 : gotG g fr k = (0, 1, g) := by rw [E.out, rowR_bad hbd]; rfl
          have E0 : Hid (gotG g fr k = (0, 1, g)) := e2
          clear e2 E
          cases b with
          | false =>
            clear hit hb'
            go_wp2
            all_goals (go_ret2; rw [E0.out]; exact ⟨rfl, H.out, Chg.refl _ _⟩)
          | true =>
            rw [← hb'] at hit
            clear hb'
            cases hfl : g.c.full with
            | false =>
              rw [hfl] at c30
              clear hit
              go_wp2
              all_goals (go_ret2; rw [E0.out]; exact ⟨rfl, H.out, Chg.refl _ _⟩)
            | true =>
              rw [hfl] at c30
              have hk : (g.c.key == k) = false := by simpa [hfl] using hit
              clear hit
              go_wp2
              all_goals (go_ret2; rw [E0.out]; exact ⟨rfl, H.out, Chg.refl _ _⟩)
        · obtain ⟨i, rfl⟩ : ∃ i : Nat, k = i := ⟨k.toNat, by omega⟩
          have hi : i < 4 := by omega
          have ci : wr.cell? ⟨pg, i, none⟩ = some (.bool (g.m.has i)) := cell_of H.out (gh_has g hi)
          have cv : wr.cell? ⟨pg, 4 + i, none⟩ = some (.int .i64 (g.m.val i)) := cell_of H.out (gh_val g hi)
          have nm : b = false ∨ (b = true ∧ g.c.full = false) ∨ (b = true ∧ g.c.full = true ∧ (g.c.key == (i : Int)) = false) := by
            rw [← hb'] at hit
            cases b <;> cases hfl : g.c.full <;> simp [hfl] at hit ⊢
            exact hit
          have hb2 : Hid (b = anyS g fr) := hb'
          clear hit hb' hbd
          cases hh : g.m.has i with
          | false =>
            rw [hh] at ci
            have e2 : gotG g fr i = (0, 2, g) := by rw [E.out, rowR_in hi, hh]; rfl
            have E0 : Hid (gotG g fr i = (0, 2, g)) := e2
            clear e2 E
            rcases nm with rfl | ⟨rfl, hfl⟩ | ⟨rfl, hfl, hk⟩
            · go_wp2
              go_ret2
              rw [E0.out]
              exact ⟨rfl, H.out, Chg.refl _ _⟩
            · rw [hfl] at c30
              go_wp2
              go_ret2
              rw [E0.out]
              exact ⟨rfl, H.out, Chg.refl _ _⟩
            · rw [hfl] at c30
              go_wp2
              go_ret2
              rw [E0.out]
              exact ⟨rfl, H.out, Chg.refl _ _⟩
          | true =>
            rw [hh] at ci
            have e2 : gotG g fr i = (g.m.val i, 0, if anyS g fr = true then { g with c := { g.c with full := true, key := i, val := g.m.val i } } else g) := by rw [E.out, rowR_in hi, hh]; rfl
            rw [← hb2.out] at e2
            have E0 : Hid (gotG g fr i = (g.m.val i, 0, if b = true then { g with c := { g.c with full := true, key := i, val := g.m.val i } } else g)) := e2
            clear e2 E
            have G3 : ∀ w', w' = ((wr.setCell ⟨pg, 30, none⟩ (.bool true)).setCell ⟨pg, 31, none⟩ (.int .i64 i)).setCell ⟨pg, 32, none⟩ (.int .i64 (g.m.val i)) → GhAt w' pg { g with c := { g.c with full := true, key := i, val := g.m.val i } } := by
              rintro _ rfl
              exact ((H.out.set (gs_full g true)).set (gs_key _ _)).set (gs_mem _ _)
            have HG3 : Hid (∀ w', w' = ((wr.setCell ⟨pg, 30, none⟩ (.bool true)).setCell ⟨pg, 31, none⟩ (.int .i64 i)).setCell ⟨pg, 32, none⟩ (.int .i64 (g.m.val i)) → GhAt w' pg { g with c := { g.c with full := true, key := i, val := g.m.val i } }) := G3
            clear G3
            rcases nm with rfl | ⟨rfl, hfl⟩ | ⟨rfl, hfl, hk⟩
            · go_wp2
              go_ret2
              rw [E0.out]
              exact ⟨rfl, H.out, Chg.refl _ _⟩
            · rw [hfl] at c30
              go_wp2
              go_ret2
              rw [E0.out]
              exact ⟨rfl, HG3.out _ rfl, Chg.px (Chg.px (Chg.px (Chg.refl _ _)))⟩
            · rw [hfl] at c30
              go_wp2
              go_ret2
              rw [E0.out]
              exact ⟨rfl, HG3.out _ rfl, Chg.px (Chg.px (Chg.px (Chg.refl _ _)))⟩
end Go.Proofs.Qxb6500371a.W
