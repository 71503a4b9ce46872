import Derived.Test.Qxb6500371aPl
set_option linter.unusedVariables false
set_option linter.unusedSimpArgs false
namespace Go.Proofs.Qxb6500371a.W
open Go.RowKit Go.Maps

/-- The ghost's own numbers. -/
structure GNum (g : GS) : Prop where
  num : ∀ i, i64ok (g.puts i) ∧ i64ok (g.dels i) ∧ i64ok (g.evk i) ∧ (g.ev i = 0 ∨ g.ev i = 80 ∨ g.ev i = 68)
  c : g.c.ok

structure Rel (S : RS) (g : GS) : Prop where
  ok : S.ok
  zero : S.m.zero
  keyed : ∀ x ∈ S.ls, x.keyed S.m
  m : g.m = S.m
  n : g.n = S.ls.length
  lay : RelL g S.ls
  free : ∀ i, S.ls.length ≤ i → g.puts i = 0 ∧ g.dels i = 0 ∧ g.ev i = 0 ∧ g.evk i = 0
  noBase : baseOf S.ls = none → g.c = ⟨0, 0, 0, false⟩
  heldN : S.held = none → g.held = -1 ∧ g.thn = 0
  heldS : ∀ h a b, S.held = some (h, a, b) → g.held = (h : Nat) ∧ g.thn = wrap64 (a + b)
  num : GNum g

theorem Rel.heldOk {S : RS} {g : GS} (h : Rel S g) : g.heldOk := by
  cases hh : S.held with
  | none => exact Or.inl (h.heldN hh).1
  | some z =>
    obtain ⟨q, a, b⟩ := z
    have := h.ok.hld q a b hh
    have := h.ok.len
    exact Or.inr ⟨q, by omega, (h.heldS q a b hh).1⟩

theorem Rel.gok {S : RS} {g : GS} (h : Rel S g) : g.ok := by
  have := h.ok.len
  exact ⟨by rw [h.n]; omega, h.heldOk, fun i _ => (h.num.num i).1, fun i _ => (h.num.num i).2.1, fun i _ => (h.num.num i).2.2.1, fun i _ => (h.num.num i).2.2.2, h.num.c, by rw [h.m]; exact h.ok.mok⟩

theorem sub_len (ls : List Layer) (h : Nat) (hh : h ≤ ls.length) : (subL ls h).length = h := by
  simp [subL]; omega
theorem take_sub (ls : List Layer) (h : Nat) : ls.take (ls.length - h) ++ subL ls h = ls := by simp [subL]

theorem Rel.sub {S : RS} {g : GS} (h : Rel S g) (q : Nat) : RelL g (subL S.ls q) := by
  have := h.lay
  rw [← take_sub S.ls q] at this
  exact RelL.sub this

/-- Since: the two sides say one thing. -/
theorem rel_since {S : RS} {g : GS} (h : Rel S g) : sinceR S = sincedG g := by
  cases hh : S.held with
  | none =>
    have := (h.heldN hh).1
    rw [sinceR, hh, sincedG, if_pos (by omega)]
  | some z =>
    obtain ⟨q, a, b⟩ := z
    obtain ⟨e1, e2⟩ := h.heldS q a b hh
    have hq := h.ok.hld q a b hh
    have hl := sub_len S.ls q hq
    have hr := h.sub q
    rw [sinceR, hh]
    simp only
    cases hs : subL S.ls q with
    | nil =>
      rw [hs] at hl
      simp at hl
      rw [sincedG, if_neg (by omega), if_pos (Or.inl (by omega))]
    | cons x r =>
      rw [hs] at hl hr
      simp only [List.length_cons] at hl
      have ei : (g.held - 1).toNat = r.length := by omega
      cases x with
      | cached p c =>
        obtain ⟨rfl, h1, h2⟩ := hr
        rw [sincedG, if_neg (by omega), if_pos (Or.inr (by rw [ei]; simp [h1]))]
      | limited p c =>
        obtain ⟨rfl, h1, h2⟩ := hr
        rw [sincedG, if_neg (by omega), if_pos (Or.inr (by rw [ei]; simp [h1]))]
      | logged p l =>
        obtain ⟨h1, h2, h3, _⟩ := hr
        rw [sincedG, if_neg (by omega), ei, if_neg (by rw [h1]; simp; omega), h2, h3, e2]

theorem RelL.name {g : GS} : ∀ {ls : List Layer}, RelL g ls → nameL ls = if (baseOf ls).isSome then ⟨#[99, 97, 99, 104, 101, 100]⟩ else ⟨#[109, 101, 109]⟩
  | [], _ => rfl
  | .cached p c :: r, _ => rfl
  | .limited p c :: r, _ => rfl
  | .logged p l :: r, h => by rw [nameL, RelL.name h.2.2.2.2.2]; rfl

theorem rel_name {S : RS} {g : GS} (h : Rel S g) : nameL S.ls = namedG g := by
  rw [RelL.name h.lay, namedG, h.n, RelL.any h.lay]

/-! Show -/
theorem sp_mem : (⟨#[32, 109, 101, 109, 91]⟩ : ByteArray) = ⟨#[32]⟩ ++ ⟨#[109, 101, 109, 91]⟩ := by decide
theorem memT_eq (m : MS) (u : ByteArray) : ∀ j, memT m (u ++ ⟨#[109, 101, 109, 91]⟩) j = (u ++ tellM m j, if 4 < (tellM m j).size then ⟨#[32]⟩ else ⟨#[]⟩)
  | 0 => by
    have e : (⟨#[109, 101, 109, 91]⟩ : ByteArray).size = 4 := rfl
    simp [memT, tellM, e]
  | j + 1 => by
    have ih := memT_eq m u j
    rw [memT, tellM, ih]
    by_cases hh : m.has j = true
    · simp only [hh, if_true]
      have e1 : (⟨#[61]⟩ : ByteArray).size = 1 := rfl
      have hs : 4 ≤ (tellM m j).size := by
        clear ih hh
        induction j with
        | zero => exact Nat.le_refl 4
        | succ j ih =>
          rw [tellM]
          split
          · split <;> simp only [ByteArray.size_append] <;> omega
          · exact ih
      have hb : 4 < (((if 4 < (tellM m j).size then tellM m j ++ ⟨#[32]⟩ else tellM m j) ++ ((itoa j ++ ⟨#[61]⟩) ++ itoa (m.val j)))).size := by
        split <;> simp only [ByteArray.size_append, e1] <;> omega
      rw [if_pos hb]
      congr 1
      split
      · simp only [ByteArray.append_assoc]
      · have ee : (⟨#[]⟩ : ByteArray) = ByteArray.empty := rfl
        rw [ee, ByteArray.empty_append]
        simp only [ByteArray.append_assoc]
    · simp [hh]

theorem tail_eq (m : MS) (t : ByteArray) : tailG m t = (t ++ ⟨#[32]⟩) ++ tellMem m := by
  rw [tailG, sp_mem, ← ByteArray.append_assoc, memT_eq, tellMem, ByteArray.append_assoc]

theorem ev_eq (l : LS) : evS (evN l.last) (evK l.last) = lastS l.last := by
  cases l.last with
  | none => rfl
  | some z =>
    obtain ⟨b, k⟩ := z
    cases b <;> rfl

theorem sp_log : (⟨#[32, 108, 111, 103, 91, 112, 61]⟩ : ByteArray) = ⟨#[32]⟩ ++ ⟨#[108, 111, 103, 91, 112, 61]⟩ := by decide
theorem sp_lim : (⟨#[32, 108, 105, 109, 105, 116, 101, 100, 91, 109, 97, 120, 61]⟩ : ByteArray) = ⟨#[32]⟩ ++ ⟨#[108, 105, 109, 105, 116, 101, 100, 91, 109, 97, 120, 61]⟩ := by decide
theorem sp_cac : (⟨#[32, 99, 97, 99, 104, 101, 100, 91, 104, 105, 116, 115, 61]⟩ : ByteArray) = ⟨#[32]⟩ ++ ⟨#[99, 97, 99, 104, 101, 100, 91, 104, 105, 116, 115, 61]⟩ := by decide
theorem br_sp : (⟨#[93, 32]⟩ : ByteArray) = ⟨#[93]⟩ ++ ⟨#[32]⟩ := by decide

theorem RelL.tell {g : GS} (m : MS) : ∀ {ls : List Layer} (t : ByteArray), RelL g ls → tailG m (laysG g t ls.length) = (t ++ ⟨#[32]⟩) ++ tellL ls m
  | [], t, _ => tail_eq m t
  | .cached p c :: r, t, h => by
    obtain ⟨rfl, h1, h2⟩ := h
    subst h2
    show tailG m (layG g t 0) = _
    rw [layG, if_neg (by rw [h1]; decide), if_neg (by rw [h1]; decide), tail_eq, tellL, tellC, cacG, sp_cac, br_sp]
    simp only [ByteArray.append_assoc]
  | .limited p c :: r, t, h => by
    obtain ⟨rfl, h1, h2⟩ := h
    subst h2
    show tailG m (layG g t 0) = _
    rw [layG, if_neg (by rw [h1]; decide), if_pos h1, tail_eq, tellL, tellLim, tellC, cacG, limG, sp_cac, sp_lim, br_sp]
    simp only [ByteArray.append_assoc]
  | .logged p l :: r, t, h => by
    obtain ⟨h1, h2, h3, h4, h5, h6⟩ := h
    show tailG m (laysG g (layG g t r.length) r.length) = _
    rw [RelL.tell m _ h6, layG, if_pos h1, tellL, logG, logS, h2, h3, h4, h5, ev_eq, sp_log, br_sp]
    simp only [ByteArray.append_assoc]

theorem bar_sp : (⟨#[32, 124, 32]⟩ : ByteArray) = ⟨#[32, 124]⟩ ++ ⟨#[32]⟩ := by decide

theorem rel_show {S : RS} {g : GS} (h : Rel S g) : showR S = shownG g := by
  have hat : atS S = atG g := by
    cases hh : S.held with
    | none =>
      have := (h.heldN hh).1
      rw [atS, hh, atG, if_pos (by omega)]
    | some z =>
      obtain ⟨q, a, b⟩ := z
      have := (h.heldS q a b hh).1
      rw [atS, hh, atG, if_neg (by omega), this]
  have hsn : sinceS S = sinG g := by rw [sinceS, sinG, rel_since h]
  rw [showR, shownG, h.m, h.n, RelL.tell S.m _ h.lay, rel_name h, hat, hsn, showP, headG, bar_sp]
  simp only [ByteArray.append_assoc]
end Go.Proofs.Qxb6500371a.W
