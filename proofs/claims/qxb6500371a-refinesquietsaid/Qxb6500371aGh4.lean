import Derived.Test.Qxb6500371aGh3
set_option linter.unusedVariables false
set_option linter.unusedSimpArgs false
namespace Go.Proofs.Qxb6500371a.W
open Go.RowKit Go.Maps

def laidG (g : GS) (fr : Nat) (k v : Int) : Int × GS :=
  if inB k then (if 0 < fr ∧ g.kind 0 = 3 ∧ g.m.has k.toNat = false ∧ 2 ≤ g.m.cnt then (3, g) else (0, turnG { g with m := (putM g.m k v).2 } 80 k fr)) else (1, g)

set_option maxHeartbeats 2000000 in
set_option maxRecDepth 4000 in
theorem laid_calls {w : World} {pg : Nat} {g : GS} (h : GhAt w pg g) (fr : Nat) (hf : fr ≤ 4) (k v : Int) :
    Calls Try.prog 65 #[pt pg, .int .i64 fr, .int .i64 k, .int .i64 v] w fun e w' => e = .returned (.int .i64 (laidG g fr k v).1) ∧ GhAt w' pg (laidG g fr k v).2 ∧ Chg [pg] w w' := by
  have H : Hid (GhAt w pg g) := h
  by_cases hbd : k < 0 ∨ 4 ≤ k
  · have e : laidG g fr k v = (1, g) := by rw [laidG, if_neg (by simp [inB]; omega)]
    rw [e]
    clear h e
    go_enter Try.func65, Try.ntmps65
    go_wp2
    all_goals (go_ret; exact ⟨rfl, H.out, Chg.refl _ _⟩)
  · obtain ⟨i, rfl⟩ : ∃ i : Nat, k = i := ⟨k.toNat, by omega⟩
    have hi : i < 4 := by omega
    have c9 : w.cell? ⟨pg, 9, none⟩ = some (.int .i64 (g.kind 0)) := cell_of h (gh_kind g (i := 0) (by omega))
    have ci : w.cell? ⟨pg, i, none⟩ = some (.bool (g.m.has i)) := cell_of h (gh_has g hi)
    have cv : w.cell? ⟨pg, 4 + i, none⟩ = some (.int .i64 (g.m.val i)) := cell_of h (gh_val g hi)
    have ff : ∀ i, w.frozen? ⟨pg, i, none⟩ = false := fun i => frozen_of h
    have e0 : laidG g fr (i : Int) v = if 0 < fr ∧ g.kind 0 = 3 ∧ g.m.has i = false ∧ 2 ≤ g.m.cnt then (3, g) else (0, turnG { g with m := (g.m.setHas i true).setVal i v } 80 i fr) := by
      rw [laidG, if_pos (by simp [inB]; omega), putM_in hi]; simp
    clear h
    by_cases hl : 0 < fr ∧ g.kind 0 = 3 ∧ g.m.has i = false ∧ 2 ≤ g.m.cnt
    · rw [if_pos hl] at e0
      rw [e0]
      obtain ⟨h1, h2, h3, h4⟩ := hl
      rw [h2] at c9
      rw [h3] at ci
      have d1 : decide ((0 : Int) < (fr : Int)) = true := by simp; omega
      have d2 : decide ((2 : Int) ≤ (g.m.cnt : Int)) = true := by simp; omega
      clear e0 hbd
      go_enter Try.func65, Try.ntmps65
      go_wp2_with fail
      refine (count_calls H.out).mono ?_
      rintro x w2 ⟨rfl, rfl⟩
      go_wp2
      go_ret
      exact ⟨rfl, H.out, Chg.refl _ _⟩
    · rw [if_neg hl] at e0
      have E0 : Hid (laidG g fr (i : Int) v = (0, turnG { g with m := (g.m.setHas i true).setVal i v } 80 i fr)) := e0
      have hcs : (fr = 0) ∨ (decide (0 < fr) = true ∧ (g.kind 0 == 3) = false) ∨ (decide (0 < fr) = true ∧ (g.kind 0 == 3) = true ∧ g.m.has i = true) ∨ (decide (0 < fr) = true ∧ (g.kind 0 == 3) = true ∧ g.m.has i = false ∧ decide ((2 : Int) ≤ (g.m.cnt : Int)) = false) := by
        by_cases a1 : 0 < fr
        · have a1' : decide (0 < fr) = true := by simpa using a1
          by_cases a2 : g.kind 0 = 3
          · cases a3 : g.m.has i with
            | true => exact Or.inr (Or.inr (Or.inl ⟨a1', by simpa using a2, rfl⟩))
            | false => exact Or.inr (Or.inr (Or.inr ⟨a1', by simpa using a2, rfl, by simp; have : ¬ 2 ≤ g.m.cnt := fun q => hl ⟨a1, a2, a3, q⟩; omega⟩))
          · exact Or.inr (Or.inl ⟨a1', by simpa using a2⟩)
        · exact Or.inl (by omega)
      clear e0 hl hbd
      rcases hcs with q1 | ⟨q1, q2⟩ | ⟨q1, q2, q3⟩ | ⟨q1, q2, q3, q4⟩
      · subst q1
        go_enter Try.func65, Try.ntmps65
        go_wp2_with fail
        refine (count_calls H.out).mono ?_
        rintro x w2 ⟨rfl, hw2⟩
        obtain rfl : w = w2 := hw2.symm
        clear hw2
        go_wp2_with fail
        refine (turned_calls (g := { g with m := (g.m.setHas i true).setVal i v }) ((H.out.set (gs_has g hi true)).set (gs_val _ hi v)) 80 i 0 hf).mono ?_
        rintro x w3 ⟨rfl, hg3, hc3⟩
        have HG3 : Hid (GhAt w3 pg (turnG { g with m := (g.m.setHas i true).setVal i v } 80 i 0)) := hg3
        have HC3 : Hid (Chg [pg] w w3) := (Chg.px (Chg.px (Chg.refl _ _))).trans hc3
        clear hg3 hc3
        go_wp2
        go_ret
        rw [E0.out]
        exact ⟨rfl, HG3.out, HC3.out⟩
      · go_enter Try.func65, Try.ntmps65
        go_wp2_with fail
        refine (count_calls H.out).mono ?_
        rintro x w2 ⟨rfl, hw2⟩
        obtain rfl : w = w2 := hw2.symm
        clear hw2
        go_wp2_with fail
        refine (turned_calls (g := { g with m := (g.m.setHas i true).setVal i v }) ((H.out.set (gs_has g hi true)).set (gs_val _ hi v)) 80 i fr hf).mono ?_
        rintro x w3 ⟨rfl, hg3, hc3⟩
        have HG3 : Hid (GhAt w3 pg (turnG { g with m := (g.m.setHas i true).setVal i v } 80 i fr)) := hg3
        have HC3 : Hid (Chg [pg] w w3) := (Chg.px (Chg.px (Chg.refl _ _))).trans hc3
        clear hg3 hc3
        go_wp2
        go_ret
        rw [E0.out]
        exact ⟨rfl, HG3.out, HC3.out⟩
      · rw [q3] at ci
        go_enter Try.func65, Try.ntmps65
        go_wp2_with fail
        refine (count_calls H.out).mono ?_
        rintro x w2 ⟨rfl, hw2⟩
        obtain rfl : w = w2 := hw2.symm
        clear hw2
        go_wp2_with fail
        refine (turned_calls (g := { g with m := (g.m.setHas i true).setVal i v }) ((H.out.set (gs_has g hi true)).set (gs_val _ hi v)) 80 i fr hf).mono ?_
        rintro x w3 ⟨rfl, hg3, hc3⟩
        have HG3 : Hid (GhAt w3 pg (turnG { g with m := (g.m.setHas i true).setVal i v } 80 i fr)) := hg3
        have HC3 : Hid (Chg [pg] w w3) := (Chg.px (Chg.px (Chg.refl _ _))).trans hc3
        clear hg3 hc3
        go_wp2
        go_ret
        rw [E0.out]
        exact ⟨rfl, HG3.out, HC3.out⟩
      · rw [q3] at ci
        go_enter Try.func65, Try.ntmps65
        go_wp2_with fail
        refine (count_calls H.out).mono ?_
        rintro x w2 ⟨rfl, hw2⟩
        obtain rfl : w = w2 := hw2.symm
        clear hw2
        go_wp2_with fail
        refine (turned_calls (g := { g with m := (g.m.setHas i true).setVal i v }) ((H.out.set (gs_has g hi true)).set (gs_val _ hi v)) 80 i fr hf).mono ?_
        rintro x w3 ⟨rfl, hg3, hc3⟩
        have HG3 : Hid (GhAt w3 pg (turnG { g with m := (g.m.setHas i true).setVal i v } 80 i fr)) := hg3
        have HC3 : Hid (Chg [pg] w w3) := (Chg.px (Chg.px (Chg.refl _ _))).trans hc3
        clear hg3 hc3
        go_wp2
        go_ret
        rw [E0.out]
        exact ⟨rfl, HG3.out, HC3.out⟩

def sincedG (g : GS) : Int × Int := if g.held < 0 then (0, 8) else if g.held = 0 ∨ g.kind (g.held - 1).toNat ≠ 1 then (0, 7) else (wrap64 (wrap64 (g.puts (g.held - 1).toNat + g.dels (g.held - 1).toNat) - g.thn), 0)

def GS.heldOk (g : GS) : Prop := g.held = -1 ∨ ∃ h : Nat, h ≤ 4 ∧ g.held = h

set_option maxHeartbeats 2000000 in
set_option maxRecDepth 4000 in
theorem sinced_calls {w : World} {pg : Nat} {g : GS} (h : GhAt w pg g) (hh : g.heldOk) :
    Calls Try.prog 70 #[pt pg] w fun e w' => e = .returned (.tuple #[.int .i64 (sincedG g).1, .int .i64 (sincedG g).2]) ∧ Chg [] w w' := by
  have H : Hid (GhAt w pg g) := h
  have c33 : w.cell? ⟨pg, 33, none⟩ = some (.int .i64 g.held) := cell_of h rfl
  have c34 : w.cell? ⟨pg, 34, none⟩ = some (.int .i64 g.thn) := cell_of h rfl
  rcases hh with e | ⟨n, hn, e⟩
  · have e2 : sincedG g = (0, 8) := by rw [sincedG, if_pos (by omega)]
    rw [e2]
    rw [e] at c33
    clear h e e2
    go_enter Try.func70, Try.ntmps70
    go_wp2
    go_ret2
    exact ⟨rfl, Chg.refl _ _⟩
  · cases n with
    | zero =>
      have e2 : sincedG g = (0, 7) := by rw [sincedG, if_neg (by omega), if_pos (Or.inl (by omega))]
      rw [e2]
      rw [e] at c33
      have c33' : w.cell? ⟨pg, 33, none⟩ = some (.int .i64 0) := c33
      clear h e e2 c33
      go_enter Try.func70, Try.ntmps70
      go_wp2_with fail
      go_quiet (fail)
      go_wp2
      go_ret2
      exact ⟨rfl, (Chg.refl _ _).drewN _⟩
    | succ i =>
      have hi : i < 4 := by omega
      have e3 : (g.held - 1).toNat = i := by omega
      have c9 : w.cell? ⟨pg, 9 + i, none⟩ = some (.int .i64 (g.kind i)) := cell_of h (gh_kind g hi)
      have c13 : w.cell? ⟨pg, 13 + i, none⟩ = some (.int .i64 (g.puts i)) := cell_of h (gh_puts g hi)
      have c17 : w.cell? ⟨pg, 17 + i, none⟩ = some (.int .i64 (g.dels i)) := cell_of h (gh_dels g hi)
      have c33' : w.cell? ⟨pg, 33, none⟩ = some (.int .i64 ((i : Int) + 1)) := by rw [c33, e]; simp
      have d0 : (((i : Int) + 1) == 0) = false := by simp; omega
      have d1 : decide (((i : Int) + 1) < 0) = false := by simp; omega
      by_cases hk : g.kind i = 1
      · have e2 : sincedG g = (wrap64 (wrap64 (g.puts i + g.dels i) - g.thn), 0) := by rw [sincedG, if_neg (by omega), e3, if_neg (by simp [hk]; omega)]
        rw [e2]
        rw [hk] at c9
        clear h e e2 c33 e3
        go_enter Try.func70, Try.ntmps70
        go_wp2_with fail
        go_quiet (fail)
        go_wp2_with fail
        go_quiet (fail)
        go_wp2
        go_ret2
        exact ⟨rfl, ((Chg.refl _ _).drewN _).drewN _⟩
      · have e2 : sincedG g = (0, 7) := by rw [sincedG, if_neg (by omega), e3, if_pos (Or.inr hk)]
        rw [e2]
        have hk' : (g.kind i != 1) = true := by simpa using hk
        clear h e e2 c33 e3 hk
        go_enter Try.func70, Try.ntmps70
        go_wp2_with fail
        go_quiet (fail)
        go_wp2
        go_ret2
        exact ⟨rfl, (Chg.refl _ _).drewN _⟩

def namedG (g : GS) : ByteArray := if anyS g g.n then ⟨#[99, 97, 99, 104, 101, 100]⟩ else ⟨#[109, 101, 109]⟩

set_option maxHeartbeats 2000000 in
set_option maxRecDepth 4000 in
theorem named_calls {w : World} {pg : Nat} {g : GS} (h : GhAt w pg g) (hn : g.n ≤ 4) :
    Calls Try.prog 68 #[pt pg] w fun e w' => e = .returned (.string (namedG g)) ∧ w' = w := by
  have H : Hid (GhAt w pg g) := h
  have c8 : w.cell? ⟨pg, 8, none⟩ = some (.int .i64 g.n) := cell_of h rfl
  clear h
  go_enter Try.func68, Try.ntmps68
  go_wp2
  go_loopw [3] (fun v3 wr => ∃ j : Nat, j ≤ g.n ∧ v3 = .int .i64 ((j : Int) - 1) ∧ anyS g j = anyS g g.n ∧ wr = w) (fun v3 _ => (intOf v3 + 1).toNat)
  case atStart => exact ⟨g.n, by omega, rfl, rfl, rfl⟩
  case round =>
    obtain ⟨j, hj, rfl, hb, rfl⟩ := hrel
    have HB : Hid (anyS g j = anyS g g.n) := hb
    clear hb
    cases j with
    | succ i =>
      have ci : wr.cell? ⟨pg, 9 + i, none⟩ = some (.int .i64 (g.kind i)) := cell_of H.out (gh_kind g (by omega))
      have e : ((i + 1 : Nat) : Int) - 1 = i := by omega
      rw [e]
      clear e
      go_wp2_with fail
      refine (says_calls _ _).mono ?_
      rintro x w2 ⟨rfl, rfl⟩
      by_cases hs : g.kind i = 1
      · have hs' : (g.kind i != 1) = false := by simp [hs]
        go_wp2
        refine ⟨⟨i, by omega, rfl, ?_, trivial⟩, by simp [intOf]⟩
        rw [← HB.out, anyS, hs']
        simp
      · have hs' : (g.kind i != 1) = true := by simp [hs]
        go_wp2
        go_ret
        refine ⟨?_, rfl⟩
        rw [namedG, ← HB.out, anyS, hs']
        rfl
    | zero =>
      have hneg : ((0 : Nat) : Int) - 1 = -1 := by omega
      rw [hneg]
      clear hneg
      go_wp2
      go_ret
      refine ⟨?_, rfl⟩
      rw [namedG, ← HB.out, anyS]
      rfl
end Go.Proofs.Qxb6500371a.W
