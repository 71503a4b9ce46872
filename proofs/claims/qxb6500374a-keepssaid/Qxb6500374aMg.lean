import Derived.Test.Qxb6500374aDo
set_option linter.unusedVariables false
set_option linter.unusedSimpArgs false
namespace Go.Proofs.Qxb6500374a.W
open Go.RowKit Go.Maps

def updf {α : Type} (f : Nat → α) (i : Nat) (v : α) : Nat → α := fun k => if k = i then v else f k

/-- A row of bools. -/
def BGrid (w : World) (p n : Nat) (f : Nat → Bool) : Prop := ∃ cs : Array Value, w.heap[p]? = some (.cells cs 4 (0, 0)) ∧ cs.size = n ∧ ∀ i, i < n → cs[i]? = some (.bool (f i))
/-- A row of ints. -/
def IGrid (w : World) (p n : Nat) (f : Nat → Int) : Prop := ∃ cs : Array Value, w.heap[p]? = some (.cells cs 3 (0, 0)) ∧ cs.size = n ∧ ∀ i, i < n → cs[i]? = some (.int .i64 (f i))

theorem BGrid.lt {w : World} {p n : Nat} {f : Nat → Bool} (h : BGrid w p n f) : p < w.heap.size := by obtain ⟨cs, h1, _⟩ := h; exact lt_of h1
theorem IGrid.lt {w : World} {p n : Nat} {f : Nat → Int} (h : IGrid w p n f) : p < w.heap.size := by obtain ⟨cs, h1, _⟩ := h; exact lt_of h1
theorem BGrid.cell {w : World} {p n : Nat} {f : Nat → Bool} (h : BGrid w p n f) {i : Nat} (hi : i < n) : w.cell? ⟨p, i, none⟩ = some (.bool (f i)) := by
  obtain ⟨cs, h1, h2, h3⟩ := h
  exact cell_of h1 (h3 i hi)
theorem IGrid.cell {w : World} {p n : Nat} {f : Nat → Int} (h : IGrid w p n f) {i : Nat} (hi : i < n) : w.cell? ⟨p, i, none⟩ = some (.int .i64 (f i)) := by
  obtain ⟨cs, h1, h2, h3⟩ := h
  exact cell_of h1 (h3 i hi)
theorem BGrid.froz {w : World} {p n : Nat} {f : Nat → Bool} (h : BGrid w p n f) (i : Nat) : w.frozen? ⟨p, i, none⟩ = false := by
  obtain ⟨cs, h1, h2, h3⟩ := h
  exact frozen_of h1
theorem IGrid.froz {w : World} {p n : Nat} {f : Nat → Int} (h : IGrid w p n f) (i : Nat) : w.frozen? ⟨p, i, none⟩ = false := by
  obtain ⟨cs, h1, h2, h3⟩ := h
  exact frozen_of h1
theorem BGrid.chg {w w' : World} {bs : List Nat} {p n : Nat} {f : Nat → Bool} (h : BGrid w p n f) (hc : Chg bs w w') (hn : p ∉ bs) : BGrid w' p n f := by
  obtain ⟨cs, h1, h2⟩ := h
  exact ⟨cs, hc.keep h1 hn, h2⟩
theorem IGrid.chg {w w' : World} {bs : List Nat} {p n : Nat} {f : Nat → Int} (h : IGrid w p n f) (hc : Chg bs w w') (hn : p ∉ bs) : IGrid w' p n f := by
  obtain ⟨cs, h1, h2⟩ := h
  exact ⟨cs, hc.keep h1 hn, h2⟩
theorem BGrid.congr {w : World} {p n : Nat} {f g : Nat → Bool} (h : BGrid w p n f) (hfg : ∀ i, i < n → f i = g i) : BGrid w p n g := by
  obtain ⟨cs, h1, h2, h3⟩ := h
  exact ⟨cs, h1, h2, fun i hi => by rw [← hfg i hi]; exact h3 i hi⟩
theorem IGrid.congr {w : World} {p n : Nat} {f g : Nat → Int} (h : IGrid w p n f) (hfg : ∀ i, i < n → f i = g i) : IGrid w p n g := by
  obtain ⟨cs, h1, h2, h3⟩ := h
  exact ⟨cs, h1, h2, fun i hi => by rw [← hfg i hi]; exact h3 i hi⟩
theorem BGrid.set {w : World} {p n : Nat} {f : Nat → Bool} (h : BGrid w p n f) {i : Nat} (hi : i < n) (v : Bool) : BGrid (w.setCell ⟨p, i, none⟩ (.bool v)) p n (updf f i v) := by
  obtain ⟨cs, h1, h2, h3⟩ := h
  refine ⟨_, heap_setCell_same _ p i _ _ _ h1, by simp [h2], fun k hk => ?_⟩
  unfold updf
  by_cases e : k = i
  · subst e
    rw [if_pos rfl]
    simp [Array.getElem?_setIfInBounds, h2, hk]
  · rw [if_neg e]
    rw [Array.getElem?_setIfInBounds_ne (Ne.symm e)]
    exact h3 k hk
theorem IGrid.set {w : World} {p n : Nat} {f : Nat → Int} (h : IGrid w p n f) {i : Nat} (hi : i < n) (v : Int) : IGrid (w.setCell ⟨p, i, none⟩ (.int .i64 v)) p n (updf f i v) := by
  obtain ⟨cs, h1, h2, h3⟩ := h
  refine ⟨_, heap_setCell_same _ p i _ _ _ h1, by simp [h2], fun k hk => ?_⟩
  unfold updf
  by_cases e : k = i
  · subst e
    rw [if_pos rfl]
    simp [Array.getElem?_setIfInBounds, h2, hk]
  · rw [if_neg e]
    rw [Array.getElem?_setIfInBounds_ne (Ne.symm e)]
    exact h3 k hk

/-- The edges, in a row. -/
def eF (A : Nat → List Nat) (i : Nat) : Bool := (A (i / 8)).contains (i % 8)
theorem eF_at (A : Nat → List Nat) {a b : Nat} (hb : b < 8) : eF A (a * 8 + b) = (A a).contains b := by
  unfold eF
  rw [show (a * 8 + b) / 8 = a by omega, show (a * 8 + b) % 8 = b by omega]
theorem eF_upd {A : Nat → List Nat} {a b : Nat} {l : List Nat} {v : Bool} (hb : b < 8) (h : ∀ c, c < 8 → l.contains c = if c = b then v else (A a).contains c) (i : Nat) : updf (eF A) (a * 8 + b) v i = eF (updA A a l) i := by
  unfold updf
  by_cases e : i = a * 8 + b
  · rw [if_pos e, e, eF_at _ hb, updA_same, h b hb, if_pos rfl]
  · rw [if_neg e]
    unfold eF
    by_cases ea : i / 8 = a
    · rw [ea, updA_same, h _ (Nat.mod_lt _ (by omega)), if_neg (by omega)]
    · rw [updA_ne _ _ ea]

def lowI (i : Nat) : Bool := decide (1 ≤ i / 5) && decide (i % 5 ≤ i / 5) && low (i % 5) (i / 5)
/-- The counts in lowest terms, in a row. -/
def ct (cn : Nat → Int) (i : Nat) : Int := if lowI i = true then cn (rj (i % 5) (i / 5)) else 0
def atI (h t : Nat) : Nat := t / Nat.gcd h t * 5 + h / Nat.gcd h t

def atChk (h t : Nat) : Bool := (decide (atI h t < 25) && (lowI (atI h t) && (decide (rj (atI h t % 5) (atI h t / 5) = rj h t) && (decide (0 < Nat.gcd h t) && decide (Nat.gcd h t ≤ 4))))) && (List.range 25).all fun i => !lowI i || (!decide (rj (i % 5) (i / 5) = rj h t) || decide (i = atI h t))
theorem at_chk : ((List.range 5).all fun t => (List.range 5).all fun h => !(decide (0 < t) && decide (h ≤ t)) || atChk h t) = true := by kernel_rfl
theorem at_all : ∀ t, t < 5 → ∀ h, h < 5 → 0 < t → h ≤ t → (atI h t < 25 ∧ lowI (atI h t) = true ∧ rj (atI h t % 5) (atI h t / 5) = rj h t ∧ 0 < Nat.gcd h t ∧ Nat.gcd h t ≤ 4) ∧ ∀ i, i < 25 → lowI i = true → rj (i % 5) (i / 5) = rj h t → i = atI h t := by
  intro t ht h hh h0 hle
  have h1 := List.all_eq_true.1 (List.all_eq_true.1 at_chk t (List.mem_range.2 ht)) h (List.mem_range.2 hh)
  simp only [h0, hle, decide_true, Bool.and_self, Bool.not_true, Bool.false_or] at h1
  unfold atChk at h1
  simp only [Bool.and_eq_true, decide_eq_true_eq] at h1
  refine ⟨⟨h1.1.1, h1.1.2.1, h1.1.2.2.1, h1.1.2.2.2.1, h1.1.2.2.2.2⟩, ?_⟩
  intro i hi hl hr
  have h2 := List.all_eq_true.1 h1.2 i (List.mem_range.2 hi)
  simpa [hl, hr] using h2
theorem ct_at (cn : Nat → Int) {h t : Nat} (h1 : h ≤ t) (h2 : t ≤ 4) (h3 : 0 < t) : ct cn (atI h t) = cn (rj h t) := by
  obtain ⟨⟨_, a2, a3, _⟩, _⟩ := at_all t (by omega) h (by omega) h3 h1
  unfold ct
  rw [if_pos a2, a3]
theorem ct_upd (cn : Nat → Int) {h t : Nat} (h1 : h ≤ t) (h2 : t ≤ 4) (h3 : 0 < t) (x : Int) (i : Nat) (hi : i < 25) : updf (ct cn) (atI h t) x i = ct (upd cn (rj h t) x) i := by
  obtain ⟨⟨_, a2, a3, _⟩, a4⟩ := at_all t (by omega) h (by omega) h3 h1
  unfold updf
  by_cases e : i = atI h t
  · rw [if_pos e, e, ct_at _ h1 h2 h3, upd_same]
  · rw [if_neg e]
    unfold ct
    by_cases hl : lowI i = true
    · rw [if_pos hl, if_pos hl, upd_ne]
      exact fun e' => e (a4 i hi hl e')
    · rw [if_neg hl, if_neg hl]

/-- How many of the first i are above 0. -/
def pc (f : Nat → Int) : Nat → Nat
  | 0 => 0
  | i + 1 => pc f i + one1 (f i)
theorem pc_le (f : Nat → Int) : ∀ i, pc f i ≤ i
  | 0 => by simp [pc]
  | i + 1 => by have := pc_le f i; have := one1_le (f i); rw [pc]; omega
theorem ct_list (cn : Nat → Int) : ct cn 0 = 0 ∧ ct cn 1 = 0 ∧ ct cn 2 = 0 ∧ ct cn 3 = 0 ∧ ct cn 4 = 0 ∧ ct cn 5 = cn 0 ∧ ct cn 6 = cn 1 ∧ ct cn 7 = 0 ∧ ct cn 8 = 0 ∧ ct cn 9 = 0 ∧ ct cn 10 = 0 ∧ ct cn 11 = cn 2 ∧ ct cn 12 = 0 ∧ ct cn 13 = 0 ∧ ct cn 14 = 0 ∧ ct cn 15 = 0 ∧ ct cn 16 = cn 3 ∧ ct cn 17 = cn 4 ∧ ct cn 18 = 0 ∧ ct cn 19 = 0 ∧ ct cn 20 = 0 ∧ ct cn 21 = cn 5 ∧ ct cn 22 = 0 ∧ ct cn 23 = cn 6 ∧ ct cn 24 = 0 := by
  refine ⟨?_, ?_, ?_, ?_, ?_, ?_, ?_, ?_, ?_, ?_, ?_, ?_, ?_, ?_, ?_, ?_, ?_, ?_, ?_, ?_, ?_, ?_, ?_, ?_, ?_⟩ <;> rfl
theorem pc_ct (cn : Nat → Int) : pc (ct cn) 25 = nums cn := by
  obtain ⟨h0, h1, h2, h3, h4, h5, h6, h7, h8, h9, h10, h11, h12, h13, h14, h15, h16, h17, h18, h19, h20, h21, h22, h23, h24⟩ := ct_list cn
  have z : one1 0 = 0 := rfl
  simp only [pc, h0, h1, h2, h3, h4, h5, h6, h7, h8, h9, h10, h11, h12, h13, h14, h15, h16, h17, h18, h19, h20, h21, h22, h23, h24, z, nums]
  omega

/-- The model, as it lies. -/
structure MdAt (w : World) (pd pA pC : Nat) (lo hi : Int) (S : WS) : Prop where
  row : w.heap[pd]? = some (.cells #[.slice (some ⟨pA, 0, none⟩) 64 64, .slice (some ⟨pC, 0, none⟩) 25 25, .int .i64 S.nn, .int .i64 lo, .int .i64 hi] 82 (0, 0))
  adj : BGrid w pA 64 (eF S.A)
  cnt : IGrid w pC 25 (ct S.cn)
  ap1 : pd ≠ pA
  ap2 : pd ≠ pC
  ap3 : pA ≠ pC

theorem MdAt.chg {w w' : World} {bs : List Nat} {pd pA pC : Nat} {lo hi : Int} {S : WS} (h : MdAt w pd pA pC lo hi S) (hc : Chg bs w w') (hn : ∀ x ∈ [pd, pA, pC], x ∉ bs) : MdAt w' pd pA pC lo hi S :=
  ⟨hc.keep h.row (hn pd (by simp)), h.adj.chg hc (hn pA (by simp)), h.cnt.chg hc (hn pC (by simp)), h.ap1, h.ap2, h.ap3⟩
theorem MdAt.lt {w : World} {pd pA pC : Nat} {lo hi : Int} {S : WS} (h : MdAt w pd pA pC lo hi S) : ∀ x ∈ [pd, pA, pC], x < w.heap.size := by
  intro x hx
  simp at hx
  rcases hx with rfl | rfl | rfl
  · exact lt_of h.row
  · exact h.adj.lt
  · exact h.cnt.lt

/-- What a step of the model leaves. -/
structure MStp (pd pA pC : Nat) (S' : WS) (lo hi : Int) (w w' : World) : Prop where
  at_ : MdAt w' pd pA pC lo hi S'
  chg : Chg [pd, pA, pC] w w'
theorem MStp.same {w w' : World} {pd pA pC : Nat} {lo hi : Int} {S : WS} (h : MdAt w pd pA pC lo hi S) (hc : Chg [] w w') : MStp pd pA pC S lo hi w w' := ⟨h.chg hc (by simp), hc.any⟩
end Go.Proofs.Qxb6500374a.W
