import Derived.Test.Qxb6500371aPl4
set_option linter.unusedVariables false
set_option linter.unusedSimpArgs false
namespace Go.Proofs.Qxb6500371a.W
open Go.RowKit Go.Maps

/-- The model's chain as it lies: b: does a base stand (1) or not (0)?; its kind; lv: the slice of logs. -/
def mdCells (base : Int) (g : GS) (lv : Value) : Array Value :=
  #[.bool (g.m.has 0), .bool (g.m.has 1), .bool (g.m.has 2), .bool (g.m.has 3), .int .i64 (g.m.val 0), .int .i64 (g.m.val 1), .int .i64 (g.m.val 2), .int .i64 (g.m.val 3), .int .i64 base,
    .int .i64 g.c.hits, .bool g.c.full, .int .i64 g.c.key, .int .i64 g.c.val, lv, .int .i64 g.held, .int .i64 g.thn]

def LogsAt (w : World) (lp : Option Addr) (len cap : Nat) (b : Nat) (g : GS) : Prop :=
  (len = 0 ∧ lp = none ∧ cap = 0) ∨ ∃ pl cur, lp = some ⟨pl, 0, none⟩ ∧ w.heap[pl]? = some (.cells cur 100 (0, 0)) ∧ (len ≤ cap ∧ cap ≤ maxLen) ∧ cur.size = cap * 4 ∧
    ∀ i, i < len → cur[i * 4]? = some (.int .i64 (g.puts (b + i))) ∧ cur[i * 4 + 1]? = some (.int .i64 (g.dels (b + i))) ∧ cur[i * 4 + 2]? = some (.int .i64 (g.ev (b + i))) ∧ cur[i * 4 + 3]? = some (.int .i64 (g.evk (b + i)))

def ownB : Option Addr → List Nat
  | none => []
  | some a => [a.block]

structure MdAt (w : World) (pd : Nat) (b : Nat) (base : Int) (g : GS) (lp : Option Addr) (cap : Nat) : Prop where
  row : w.heap[pd]? = some (.cells (mdCells base g (.slice lp (g.n - b) cap)) 84 (0, 0))
  logs : LogsAt w lp (g.n - b) cap b g
  apart : pd ∉ ownB lp
  lt : ∀ x ∈ ownB lp, x < w.heap.size

/-- Base or no base. -/
structure GM (b : Nat) (base : Int) (g : GS) : Prop where
  n : g.n ≤ 4
  bb : (b = 0 ∧ base = 0 ∧ g.c = ⟨0, 0, 0, false⟩) ∨ (b = 1 ∧ 0 < g.n ∧ g.kind 0 = base ∧ (base = 2 ∨ base = 3))
  logs : ∀ i, b ≤ i → i < g.n → g.kind i = 1

theorem LogsAt.chg {w w' : World} {bs : List Nat} {lp : Option Addr} {len cap b : Nat} {g : GS} (h : LogsAt w lp len cap b g) (hc : Chg bs w w') (hn : ∀ x ∈ ownB lp, x ∉ bs) : LogsAt w' lp len cap b g := by
  rcases h with h | ⟨pl, cur, rfl, h1, h2⟩
  · exact Or.inl h
  · exact Or.inr ⟨pl, cur, rfl, hc.keep h1 (hn pl (by simp [ownB])), h2⟩

theorem MdAt.chg {w w' : World} {bs : List Nat} {pd b cap : Nat} {base : Int} {g : GS} {lp : Option Addr} (h : MdAt w pd b base g lp cap) (hc : Chg bs w w') (hn : ∀ x ∈ pd :: ownB lp, x ∉ bs) : MdAt w' pd b base g lp cap :=
  ⟨hc.keep h.row (hn pd (by simp)), h.logs.chg hc (fun x hx => hn x (by simp [hx])), h.apart, fun x hx => Nat.lt_of_lt_of_le (h.lt x hx) hc.size⟩

theorem md_has (base : Int) (g : GS) (lv : Value) {i : Nat} (h : i < 4) : (mdCells base g lv)[i]? = some (.bool (g.m.has i)) := by rcases lt4 h with rfl | rfl | rfl | rfl <;> rfl
theorem md_val (base : Int) (g : GS) (lv : Value) {i : Nat} (h : i < 4) : (mdCells base g lv)[4 + i]? = some (.int .i64 (g.m.val i)) := by rcases lt4 h with rfl | rfl | rfl | rfl <;> rfl

set_option maxRecDepth 4000 in
theorem layers_calls {w : World} {pd b cap : Nat} {base : Int} {g : GS} {lp : Option Addr} (h : MdAt w pd b base g lp cap) (hm : GM b base g) :
    Calls Try.prog 87 #[pt pd] w fun x w' => x = .returned (.int .i64 g.n) ∧ w' = w := by
  have hn := hm.n
  have c8 : w.cell? ⟨pd, 8, none⟩ = some (.int .i64 base) := cell_of h.row rfl
  have c13 : w.cell? ⟨pd, 13, none⟩ = some (.slice lp (g.n - b : Nat) cap) := cell_of h.row rfl
  rcases hm.bb with ⟨rfl, rfl, _⟩ | ⟨rfl, h1, h2, h3⟩
  · clear h hm
    go_enter Try.func87, Try.ntmps87
    go_wp2
    go_ret
    exact ⟨by simp, rfl⟩
  · have hb : (base != 0) = true := by simp; omega
    have e : ((1 : Int) + ((g.n - 1 : Nat) : Int)) = g.n := by omega
    have E : Hid ((1 : Int) + ((g.n - 1 : Nat) : Int) = g.n) := e
    clear h hm h2 h3 e
    go_enter Try.func87, Try.ntmps87
    go_wp2
    go_ret
    refine ⟨?_, rfl⟩
    show Ending.returned (.int .i64 _) = _
    congr 2

set_option maxRecDepth 4000 in
theorem table_calls {w : World} {pd b cap : Nat} {base : Int} {g : GS} {lp : Option Addr} (h : MdAt w pd b base g lp cap) (k : Int) :
    Calls Try.prog 89 #[pt pd, .int .i64 k] w fun x w' => x = .returned (.tuple #[.int .i64 (rowR g.m k).2.1, .int .i64 (rowR g.m k).2.2]) ∧ w' = w := by
  by_cases hb : k < 0 ∨ 4 ≤ k
  · rw [rowR_bad hb]
    clear h
    go_enter Try.func89, Try.ntmps89
    go_wp2
    all_goals (go_ret2; exact ⟨rfl, rfl⟩)
  · obtain ⟨i, rfl⟩ : ∃ i : Nat, k = i := ⟨k.toNat, by omega⟩
    have hi : i < 4 := by omega
    have ci : w.cell? ⟨pd, i, none⟩ = some (.bool (g.m.has i)) := cell_of h.row (md_has _ _ _ hi)
    have cv : w.cell? ⟨pd, 4 + i, none⟩ = some (.int .i64 (g.m.val i)) := cell_of h.row (md_val _ _ _ hi)
    rw [rowR_in hi]
    clear h hb
    cases hh : g.m.has i with
    | true =>
      rw [hh] at ci
      go_enter Try.func89, Try.ntmps89
      go_wp2
      go_ret2
      exact ⟨rfl, rfl⟩
    | false =>
      rw [hh] at ci
      go_enter Try.func89, Try.ntmps89
      go_wp2
      go_ret2
      exact ⟨rfl, rfl⟩

set_option maxHeartbeats 1000000 in
set_option maxRecDepth 4000 in
theorem mlen_calls {w : World} {pd b cap : Nat} {base : Int} {g : GS} {lp : Option Addr} (h : MdAt w pd b base g lp cap) :
    Calls Try.prog 78 #[pt pd] w fun e w' => e = .returned (.int .i64 g.m.cnt) ∧ w' = w := by
  have H : Hid (MdAt w pd b base g lp cap) := h
  clear h
  go_enter Try.func78, Try.ntmps78
  go_wp2
  go_loopw [3, 4] (fun v3 v4 wr => ∃ j : Nat, j ≤ 4 ∧ v4 = .int .i64 j ∧ v3 = .int .i64 (cntTo g.m j : Nat) ∧ wr = w) (fun _ v4 _ => (4 - intOf v4).toNat)
  case atStart => exact ⟨0, by omega, rfl, rfl, rfl⟩
  case round =>
    obtain ⟨j, hj, rfl, rfl, rfl⟩ := hrel
    have hcl := cntTo_le g.m j
    by_cases hj4 : j < 4
    · have cj : wr.cell? ⟨pd, j, none⟩ = some (.bool (g.m.has j)) := cell_of H.out.row (md_has _ _ _ hj4)
      cases hh : g.m.has j with
      | true =>
        rw [hh] at cj
        have e : cntTo g.m (j + 1) = cntTo g.m j + 1 := by rw [cntTo, hh]; rfl
        have E : Hid (cntTo g.m (j + 1) = cntTo g.m j + 1) := e
        clear e
        generalize cntTo g.m j = c at *
        go_wp2
        exact ⟨⟨j + 1, by omega, by simp, by rw [E.out]; simp, trivial⟩, by simp [intOf]; omega⟩
      | false =>
        rw [hh] at cj
        have e : cntTo g.m (j + 1) = cntTo g.m j := by rw [cntTo, hh]; rfl
        have E : Hid (cntTo g.m (j + 1) = cntTo g.m j) := e
        clear e
        generalize cntTo g.m j = c at *
        go_wp2
        exact ⟨⟨j + 1, by omega, by simp, by rw [E.out], trivial⟩, by simp [intOf]; omega⟩
    · have e : cntTo g.m j = g.m.cnt := by rw [show j = 4 by omega, cntTo4]
      rw [e]
      clear hcl e
      go_wp2
      go_ret
      exact ⟨rfl, rfl⟩

/-- A store into the model's row. -/
theorem MdAt.set {w : World} {pd b cap : Nat} {base base' : Int} {g g' : GS} {lp : Option Addr} (h : MdAt w pd b base g lp cap) {i : Nat} {v : Value} (e : (mdCells base g (.slice lp (g.n - b) cap)).setIfInBounds i v = mdCells base' g' (.slice lp (g.n - b) cap))
    (hn : g'.n = g.n) (hl : ∀ j, g'.puts j = g.puts j ∧ g'.dels j = g.dels j ∧ g'.ev j = g.ev j ∧ g'.evk j = g.evk j) : MdAt (w.setCell ⟨pd, i, none⟩ v) pd b base' g' lp cap := by
  have hc : Chg [pd] w (w.setCell ⟨pd, i, none⟩ v) := Chg.px (Chg.refl _ _)
  refine ⟨?_, ?_, h.apart, fun x hx => Nat.lt_of_lt_of_le (h.lt x hx) hc.size⟩
  · rw [heap_setCell_same w pd i _ _ v h.row, e, hn]
  · rw [hn]
    have := h.logs.chg hc (fun x hx hp => by simp at hp; subst hp; exact h.apart hx)
    rcases this with h0 | ⟨pl, cur, h1, h2, h3, h4, h5⟩
    · exact Or.inl h0
    · refine Or.inr ⟨pl, cur, h1, h2, h3, h4, fun j hj => ?_⟩
      obtain ⟨l1, l2, l3, l4⟩ := hl (b + j)
      rw [l1, l2, l3, l4]
      exact h5 j hj

theorem ms_hits (base : Int) (g : GS) (lv : Value) (v : Int) : (mdCells base g lv).setIfInBounds 9 (.int .i64 v) = mdCells base { g with c := { g.c with hits := v } } lv := by simp [mdCells]
theorem ms_full (base : Int) (g : GS) (lv : Value) (v : Bool) : (mdCells base g lv).setIfInBounds 10 (.bool v) = mdCells base { g with c := { g.c with full := v } } lv := by simp [mdCells]
theorem ms_key (base : Int) (g : GS) (lv : Value) (v : Int) : (mdCells base g lv).setIfInBounds 11 (.int .i64 v) = mdCells base { g with c := { g.c with key := v } } lv := by simp [mdCells]
theorem ms_mem (base : Int) (g : GS) (lv : Value) (v : Int) : (mdCells base g lv).setIfInBounds 12 (.int .i64 v) = mdCells base { g with c := { g.c with val := v } } lv := by simp [mdCells]
theorem ms_held (base : Int) (g : GS) (lv : Value) (v : Int) : (mdCells base g lv).setIfInBounds 14 (.int .i64 v) = mdCells base { g with held := v } lv := by simp [mdCells]
theorem ms_thn (base : Int) (g : GS) (lv : Value) (v : Int) : (mdCells base g lv).setIfInBounds 15 (.int .i64 v) = mdCells base { g with thn := v } lv := by simp [mdCells]
theorem ms_has (base : Int) (g : GS) (lv : Value) {i : Nat} (h : i < 4) (v : Bool) : (mdCells base g lv).setIfInBounds i (.bool v) = mdCells base { g with m := g.m.setHas i v } lv := by rcases lt4 h with rfl | rfl | rfl | rfl <;> simp [mdCells, MS.setHas]
theorem ms_val (base : Int) (g : GS) (lv : Value) {i : Nat} (h : i < 4) (v : Int) : (mdCells base g lv).setIfInBounds (4 + i) (.int .i64 v) = mdCells base { g with m := g.m.setVal i v } lv := by rcases lt4 h with rfl | rfl | rfl | rfl <;> simp [mdCells, MS.setVal]

theorem same4 (g : GS) : ∀ j : Nat, g.puts j = g.puts j ∧ g.dels j = g.dels j ∧ g.ev j = g.ev j ∧ g.evk j = g.evk j := fun _ => ⟨rfl, rfl, rfl, rfl⟩

theorem anyS_gm {b : Nat} {base : Int} {g : GS} (h : GM b base g) : ∀ n, n ≤ g.n → anyS g n = (b == 1 && decide (0 < n))
  | 0, _ => by simp [anyS]
  | n + 1, hn => by
    have ih := anyS_gm h n (by omega)
    rw [anyS, ih]
    rcases h.bb with ⟨rfl, _, _⟩ | ⟨rfl, h1, h2, h3⟩
    · have := h.logs n (by omega) (by omega)
      simp [this]
    · by_cases h0 : n = 0
      · subst h0
        have : g.kind 0 ≠ 1 := by omega
        simp [this]
      · have := h.logs n (by omega) (by omega)
        simp [this]
        omega

set_option maxHeartbeats 1000000 in
set_option maxRecDepth 4000 in
theorem mget_calls {w : World} {pd b cap : Nat} {base : Int} {g : GS} {lp : Option Addr} (h : MdAt w pd b base g lp cap) (hm : GM b base g) (k : Int) (n : Nat) (hn : n ≤ g.n) (hn0 : 0 < n ∨ b = 0) :
    Calls Try.prog 74 #[pt pd, .int .i64 k] w fun x w' => x = .returned (.tuple #[.int .i64 (gotG g n k).1, .int .i64 (gotG g n k).2.1]) ∧ MdAt w' pd b base (gotG g n k).2.2 lp cap ∧ Chg [pd] w w' := by
  have H : Hid (MdAt w pd b base g lp cap) := h
  have hany := anyS_gm hm n hn
  have c8 : w.cell? ⟨pd, 8, none⟩ = some (.int .i64 base) := cell_of h.row rfl
  have c9 : w.cell? ⟨pd, 9, none⟩ = some (.int .i64 g.c.hits) := cell_of h.row rfl
  have c10 : w.cell? ⟨pd, 10, none⟩ = some (.bool g.c.full) := cell_of h.row rfl
  have c11 : w.cell? ⟨pd, 11, none⟩ = some (.int .i64 g.c.key) := cell_of h.row rfl
  have c12 : w.cell? ⟨pd, 12, none⟩ = some (.int .i64 g.c.val) := cell_of h.row rfl
  have ff : ∀ i, w.frozen? ⟨pd, i, none⟩ = false := fun _ => frozen_of h.row
  rcases hm.bb with ⟨rfl, rfl, hc0⟩ | ⟨rfl, h1, h2, h3⟩
  · have hany' : anyS g n = false := by rw [hany]; rfl
    have E : Hid (gotG g n k = ((rowR g.m k).2.1, (rowR g.m k).2.2, g)) := by
      show gotG g n k = _
      rw [gotG, if_neg (by simp [hany'])]
      by_cases h0 : (rowR g.m k).2.2 = 0
      · rw [if_pos h0, if_neg (by simp [hany']), h0]
      · rw [if_neg h0, rowR_err h0]
    clear h hm hany hany' hc0 hn0
    go_enter Try.func74, Try.ntmps74
    go_wp2_with fail
    refine (table_calls H.out k).mono ?_
    rintro x w2 ⟨rfl, hw2⟩
    obtain rfl : w = w2 := hw2.symm
    clear hw2
    go_wp2
    go_ret2
    rw [E.out]
    exact ⟨rfl, H.out, Chg.refl _ _⟩
  · have hany' : anyS g n = true := by rw [hany]; simp; omega
    have hb : (base == 0) = false := by simp; omega
    by_cases hit : g.c.full = true ∧ k = g.c.key
    · have E : Hid (gotG g n k = (g.c.val, 0, { g with c := { g.c with hits := wrap64 (g.c.hits + 1) } })) := by
        show gotG g n k = _
        rw [gotG, if_pos ⟨hany', hit.1, hit.2.symm⟩]
      rw [hit.1] at c10
      have hk : (k == g.c.key) = true := by simpa using hit.2
      clear h hm hany hany' hit h1 h2 h3 hn0
      go_enter Try.func74, Try.ntmps74
      go_wp2
      go_ret2
      rw [E.out]
      exact ⟨rfl, H.out.set (ms_hits _ _ _ _) rfl (same4 g), Chg.px (Chg.refl _ _)⟩
    · have hcs : g.c.full = false ∨ (g.c.full = true ∧ (k == g.c.key) = false) := by
        cases hf : g.c.full with
        | false => exact Or.inl rfl
        | true => exact Or.inr ⟨rfl, by simpa [hf] using hit⟩
      have E0 : gotG g n k = if (rowR g.m k).2.2 = 0 then ((rowR g.m k).2.1, 0, { g with c := { g.c with full := true, key := k, val := (rowR g.m k).2.1 } }) else (0, (rowR g.m k).2.2, g) := by
        rw [gotG, if_neg (fun q => hit ⟨q.2.1, q.2.2.symm⟩)]
        simp [hany']
      by_cases h0 : (rowR g.m k).2.2 = 0
      · have E : Hid (gotG g n k = ((rowR g.m k).2.1, 0, { g with c := { g.c with full := true, key := k, val := (rowR g.m k).2.1 } })) := by
          show gotG g n k = _
          rw [E0, if_pos h0]
        have hr : Hid ((rowR g.m k).2.2 = 0) := h0
        clear h hm hany hany' hit h1 h2 h3 hn0 E0
        rcases hcs with hf | ⟨hf, hk⟩
        all_goals
          rw [hf] at c10
          clear h0
          go_enter Try.func74, Try.ntmps74
          go_wp2_with fail
          refine (table_calls H.out k).mono ?_
          rintro x w2 ⟨rfl, hw2⟩
          obtain rfl : w = w2 := hw2.symm
          clear hw2
          rw [hr.out]
          go_wp2
          go_ret2
          rw [E.out]
          exact ⟨rfl, ((H.out.set (ms_full _ _ _ true) rfl (same4 g)).set (ms_key _ _ _ k) rfl (same4 g)).set (ms_mem _ _ _ _) rfl (same4 g), Chg.px (Chg.px (Chg.px (Chg.refl _ _)))⟩
      · have E : Hid (gotG g n k = (0, (rowR g.m k).2.2, g)) := by
          show gotG g n k = _
          rw [E0, if_neg h0]
        have h0' : ((rowR g.m k).2.2 == 0) = false := by simpa using h0
        have hr : Hid ((rowR g.m k).2.1 = 0) := rowR_err h0
        clear h hm hany hany' hit h1 h2 h3 hn0 E0 h0
        rcases hcs with hf | ⟨hf, hk⟩
        all_goals
          rw [hf] at c10
          go_enter Try.func74, Try.ntmps74
          go_wp2_with fail
          refine (table_calls H.out k).mono ?_
          rintro x w2 ⟨rfl, hw2⟩
          obtain rfl : w = w2 := hw2.symm
          clear hw2
          rw [hr.out]
          go_wp2
          go_ret2
          rw [E.out]
          exact ⟨rfl, H.out, Chg.refl _ _⟩
end Go.Proofs.Qxb6500371a.W
