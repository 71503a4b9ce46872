import Derived.Test.Qxb6500371aDo
set_option linter.unusedVariables false
set_option linter.unusedSimpArgs false
namespace Go.Proofs.Qxb6500371a.W
open Go.RowKit Go.Maps

/-- The law's ghost, plainly. -/
structure GS where
  m : MS
  n : Nat
  kind : Nat → Int
  puts : Nat → Int
  dels : Nat → Int
  ev : Nat → Int
  evk : Nat → Int
  c : CS
  held : Int
  thn : Int

def four (f : Nat → Int) : List Value := [.int .i64 (f 0), .int .i64 (f 1), .int .i64 (f 2), .int .i64 (f 3)]
def ghCells (g : GS) : Array Value :=
  #[.bool (g.m.has 0), .bool (g.m.has 1), .bool (g.m.has 2), .bool (g.m.has 3), .int .i64 (g.m.val 0), .int .i64 (g.m.val 1), .int .i64 (g.m.val 2), .int .i64 (g.m.val 3), .int .i64 g.n,
    .int .i64 (g.kind 0), .int .i64 (g.kind 1), .int .i64 (g.kind 2), .int .i64 (g.kind 3), .int .i64 (g.puts 0), .int .i64 (g.puts 1), .int .i64 (g.puts 2), .int .i64 (g.puts 3),
    .int .i64 (g.dels 0), .int .i64 (g.dels 1), .int .i64 (g.dels 2), .int .i64 (g.dels 3), .int .i64 (g.ev 0), .int .i64 (g.ev 1), .int .i64 (g.ev 2), .int .i64 (g.ev 3),
    .int .i64 (g.evk 0), .int .i64 (g.evk 1), .int .i64 (g.evk 2), .int .i64 (g.evk 3), .int .i64 g.c.hits, .bool g.c.full, .int .i64 g.c.key, .int .i64 g.c.val, .int .i64 g.held, .int .i64 g.thn]

def GhAt (w : World) (pg : Nat) (g : GS) : Prop := w.heap[pg]? = some (.cells (ghCells g) 40 (0, 0))

theorem GhAt.chg {w w' : World} {bs : List Nat} {pg : Nat} {g : GS} (h : GhAt w pg g) (hc : Chg bs w w') (hn : pg ∉ bs) : GhAt w' pg g := hc.keep h hn
theorem GhAt.lt {w : World} {pg : Nat} {g : GS} (h : GhAt w pg g) : pg < w.heap.size := (Array.getElem?_eq_some_iff.1 h).1

def upd (f : Nat → Int) (i : Nat) (v : Int) : Nat → Int := fun j => if j = i then v else f j

theorem lt4 {i : Nat} (h : i < 4) : i = 0 ∨ i = 1 ∨ i = 2 ∨ i = 3 := by omega

theorem gh_has (g : GS) {i : Nat} (h : i < 4) : (ghCells g)[i]? = some (.bool (g.m.has i)) := by rcases lt4 h with rfl | rfl | rfl | rfl <;> rfl
theorem gh_val (g : GS) {i : Nat} (h : i < 4) : (ghCells g)[4 + i]? = some (.int .i64 (g.m.val i)) := by rcases lt4 h with rfl | rfl | rfl | rfl <;> rfl
theorem gh_kind (g : GS) {i : Nat} (h : i < 4) : (ghCells g)[9 + i]? = some (.int .i64 (g.kind i)) := by rcases lt4 h with rfl | rfl | rfl | rfl <;> rfl
theorem gh_puts (g : GS) {i : Nat} (h : i < 4) : (ghCells g)[13 + i]? = some (.int .i64 (g.puts i)) := by rcases lt4 h with rfl | rfl | rfl | rfl <;> rfl
theorem gh_dels (g : GS) {i : Nat} (h : i < 4) : (ghCells g)[17 + i]? = some (.int .i64 (g.dels i)) := by rcases lt4 h with rfl | rfl | rfl | rfl <;> rfl
theorem gh_ev (g : GS) {i : Nat} (h : i < 4) : (ghCells g)[21 + i]? = some (.int .i64 (g.ev i)) := by rcases lt4 h with rfl | rfl | rfl | rfl <;> rfl
theorem gh_evk (g : GS) {i : Nat} (h : i < 4) : (ghCells g)[25 + i]? = some (.int .i64 (g.evk i)) := by rcases lt4 h with rfl | rfl | rfl | rfl <;> rfl

theorem gs_has (g : GS) {i : Nat} (h : i < 4) (b : Bool) : (ghCells g).setIfInBounds i (.bool b) = ghCells { g with m := g.m.setHas i b } := by rcases lt4 h with rfl | rfl | rfl | rfl <;> simp [ghCells, MS.setHas]
theorem gs_val (g : GS) {i : Nat} (h : i < 4) (v : Int) : (ghCells g).setIfInBounds (4 + i) (.int .i64 v) = ghCells { g with m := g.m.setVal i v } := by rcases lt4 h with rfl | rfl | rfl | rfl <;> simp [ghCells, MS.setVal]
theorem gs_kind (g : GS) {i : Nat} (h : i < 4) (v : Int) : (ghCells g).setIfInBounds (9 + i) (.int .i64 v) = ghCells { g with kind := upd g.kind i v } := by rcases lt4 h with rfl | rfl | rfl | rfl <;> simp [ghCells, upd]
theorem gs_puts (g : GS) {i : Nat} (h : i < 4) (v : Int) : (ghCells g).setIfInBounds (13 + i) (.int .i64 v) = ghCells { g with puts := upd g.puts i v } := by rcases lt4 h with rfl | rfl | rfl | rfl <;> simp [ghCells, upd]
theorem gs_dels (g : GS) {i : Nat} (h : i < 4) (v : Int) : (ghCells g).setIfInBounds (17 + i) (.int .i64 v) = ghCells { g with dels := upd g.dels i v } := by rcases lt4 h with rfl | rfl | rfl | rfl <;> simp [ghCells, upd]
theorem gs_ev (g : GS) {i : Nat} (h : i < 4) (v : Int) : (ghCells g).setIfInBounds (21 + i) (.int .i64 v) = ghCells { g with ev := upd g.ev i v } := by rcases lt4 h with rfl | rfl | rfl | rfl <;> simp [ghCells, upd]
theorem gs_evk (g : GS) {i : Nat} (h : i < 4) (v : Int) : (ghCells g).setIfInBounds (25 + i) (.int .i64 v) = ghCells { g with evk := upd g.evk i v } := by rcases lt4 h with rfl | rfl | rfl | rfl <;> simp [ghCells, upd]
theorem gs_n (g : GS) (v : Nat) : (ghCells g).setIfInBounds 8 (.int .i64 v) = ghCells { g with n := v } := by simp [ghCells]
theorem gs_hits (g : GS) (v : Int) : (ghCells g).setIfInBounds 29 (.int .i64 v) = ghCells { g with c := { g.c with hits := v } } := by simp [ghCells]
theorem gs_full (g : GS) (v : Bool) : (ghCells g).setIfInBounds 30 (.bool v) = ghCells { g with c := { g.c with full := v } } := by simp [ghCells]
theorem gs_key (g : GS) (v : Int) : (ghCells g).setIfInBounds 31 (.int .i64 v) = ghCells { g with c := { g.c with key := v } } := by simp [ghCells]
theorem gs_mem (g : GS) (v : Int) : (ghCells g).setIfInBounds 32 (.int .i64 v) = ghCells { g with c := { g.c with val := v } } := by simp [ghCells]
theorem gs_held (g : GS) (v : Int) : (ghCells g).setIfInBounds 33 (.int .i64 v) = ghCells { g with held := v } := by simp [ghCells]
theorem gs_thn (g : GS) (v : Int) : (ghCells g).setIfInBounds 34 (.int .i64 v) = ghCells { g with thn := v } := by simp [ghCells]

/-- A store into the ghost. -/
theorem GhAt.set {w : World} {pg : Nat} {g g' : GS} (h : GhAt w pg g) {i : Nat} {v : Value} (e : (ghCells g).setIfInBounds i v = ghCells g') : GhAt (w.setCell ⟨pg, i, none⟩ v) pg g' := by
  rw [GhAt, heap_setCell_same w pg i _ _ v h, e]

theorem says_calls (k : Int) (w : World) : Calls Try.prog 69 #[.int .i64 k] w fun e w' => e = .returned (.bool (k != 1)) ∧ w' = w := by
  go_enter Try.func69, Try.ntmps69
  go_wp2
  go_ret
  exact ⟨rfl, rfl⟩

set_option maxHeartbeats 1000000 in
set_option maxRecDepth 4000 in
theorem count_calls {w : World} {pg : Nat} {g : GS} (h : GhAt w pg g) :
    Calls Try.prog 67 #[pt pg] w fun e w' => e = .returned (.int .i64 g.m.cnt) ∧ w' = w := by
  have H : Hid (GhAt w pg g) := h
  clear h
  go_enter Try.func67, Try.ntmps67
  go_wp2
  go_loopw [3, 4] (fun v3 v4 wr => ∃ j : Nat, j ≤ 4 ∧ v4 = .int .i64 j ∧ v3 = .int .i64 (cntTo g.m j : Nat) ∧ wr = w) (fun _ v4 _ => (4 - intOf v4).toNat)
  case atStart => exact ⟨0, by omega, rfl, rfl, rfl⟩
  case round =>
    obtain ⟨j, hj, rfl, rfl, rfl⟩ := hrel
    have hcl := cntTo_le g.m j
    by_cases hj4 : j < 4
    · have cj : wr.cell? ⟨pg, j, none⟩ = some (.bool (g.m.has j)) := cell_of H.out (gh_has g hj4)
      cases hh : g.m.has j with
      | true =>
        rw [hh] at cj
        have e : cntTo g.m (j + 1) = cntTo g.m j + 1 := by rw [cntTo, hh]; rfl
        have E : Hid (cntTo g.m (j + 1) = cntTo g.m j + 1) := e
        clear e
        generalize cntTo g.m j = c at *
        go_wp2
        exact ⟨⟨j + 1, by omega, by simp, by rw [E.out]; simp, trivial⟩, by simp [intOf]; omega⟩
      | false =>
        rw [hh] at cj
        have e : cntTo g.m (j + 1) = cntTo g.m j := by rw [cntTo, hh]; rfl
        have E : Hid (cntTo g.m (j + 1) = cntTo g.m j) := e
        clear e
        generalize cntTo g.m j = c at *
        go_wp2
        exact ⟨⟨j + 1, by omega, by simp, by rw [E.out], trivial⟩, by simp [intOf]; omega⟩
    · have e : cntTo g.m j = g.m.cnt := by rw [show j = 4 by omega, cntTo4]
      rw [e]
      clear hcl e
      go_wp2
      go_ret
      exact ⟨rfl, rfl⟩
end Go.Proofs.Qxb6500371a.W
