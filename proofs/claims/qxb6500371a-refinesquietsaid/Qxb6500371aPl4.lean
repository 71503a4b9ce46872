import Derived.Test.Qxb6500371aPl3
set_option linter.unusedVariables false
set_option linter.unusedSimpArgs false
namespace Go.Proofs.Qxb6500371a.W
open Go.RowKit Go.Maps

theorem rowR_key {m : MS} {k : Int} (h : (rowR m k).2.2 = 0) : (rowR m k).1 = k ∧ ∃ i : Nat, i < 4 ∧ k = i ∧ m.has i = true ∧ (rowR m k).2.1 = m.val i := by
  obtain ⟨i, hi, rfl, hh⟩ := row_ok h
  rw [rowR_in hi, if_pos hh]
  exact ⟨rfl, i, hi, rfl, hh, rfl⟩

theorem rowR_err {m : MS} {k : Int} (h : ¬ (rowR m k).2.2 = 0) : (rowR m k).2.1 = 0 := by
  unfold rowR at h ⊢
  split
  · rename_i hb
    rw [if_pos hb] at h
    split
    · rename_i hh; simp [hh] at h
    · rfl
  · rfl

/-- Laying a new memory into the base that stands among the innermost n layers. -/
theorem rel_base {S : RS} {g : GS} (h : Rel S g) (n : Nat) (hn : n ≤ S.ls.length) (c : CS) (hb : (baseOf (subL S.ls n)).isSome = true) (hc : c.ok) (hk : keyIn S.m c) :
    Rel ⟨S.m, replL S.ls n (setBase (subL S.ls n) c), S.held⟩ { g with c := c } := by
  have hsl := sub_len S.ls n hn
  have hrl : (replL S.ls n (setBase (subL S.ls n) c)).length = S.ls.length := replL_len hn (by rw [setBase_len, hsl])
  refine ⟨⟨by show (replL _ _ _).length ≤ 4; rw [hrl]; exact h.ok.len, mem_replL h.ok.lay (mem_setBase c (fun _ => hc) (fun _ => hc) (mem_subL h.ok.lay)), h.ok.mok, fun q a b hq => by show q ≤ (replL _ _ _).length; rw [hrl]; exact h.ok.hld q a b hq⟩,
    h.zero, mem_replL h.keyed (mem_setBase (P := fun x => x.keyed S.m) c (fun _ => hk) (fun _ => hk) (mem_subL h.keyed)), h.m, ?_, ?_, ?_, ?_, h.heldN, h.heldS, ⟨h.num.num, hc⟩⟩
  · show g.n = (replL _ _ _).length
    rw [hrl]; exact h.n
  · refine RelL.repl (g := g) (b := subL S.ls n) (setBase_len _ _) (RelL.setBase c (h.sub n)) (fun i _ => ⟨rfl, rfl, rfl, rfl, rfl⟩) ?_ (by rw [take_sub]; exact h.lay)
    intro e
    rw [e] at hb
    cases hb
  · intro i hi
    have : (replL S.ls n (setBase (subL S.ls n) c)).length ≤ i := hi
    exact h.free i (by omega)
  · intro e
    have e' : baseOf (replL S.ls n (setBase (subL S.ls n) c)) = none := e
    have e1 := base_sh (repl_sh (ls := S.ls) (h := n) (setBase_sh c (subL S.ls n)))
    rw [e'] at e1
    have e2 : baseOf S.ls = none := by simpa using e1.symm
    rw [← take_sub S.ls n] at e2
    rw [base_sub e2] at hb
    cases hb

/-- Get at the innermost n layers. -/
theorem rel_get {S : RS} {g : GS} (h : Rel S g) (n : Nat) (hn : n ≤ S.ls.length) (k : Int) :
    (getL (subL S.ls n) S.m k).1 = (gotG g n k).1 ∧ (getL (subL S.ls n) S.m k).2.1 = (gotG g n k).2.1 ∧ Rel ⟨S.m, replL S.ls n (getL (subL S.ls n) S.m k).2.2, S.held⟩ (gotG g n k).2.2 := by
  have hsl := sub_len S.ls n hn
  have hany := RelL.any (h.sub n)
  have er : rowR g.m k = rowR S.m k := by rw [h.m]
  rw [hsl] at hany
  rw [getL_eq]
  cases hb : baseOf (subL S.ls n) with
  | none =>
    rw [hb] at hany
    have hany' : anyS g n = false := hany
    simp only
    rw [replL_self]
    unfold gotG
    rw [er, if_neg (by simp [hany'])]
    by_cases h0 : (rowR S.m k).2.2 = 0
    · rw [if_pos h0, if_neg (by simp [hany'])]
      exact ⟨rfl, h0, h⟩
    · rw [if_neg h0]
      exact ⟨rowR_err h0, rfl, h⟩
  | some c =>
    rw [hb] at hany
    have hany' : anyS g n = true := hany
    have hc := RelL.base (h.sub n) hb
    have hco : c.ok := by rw [← hc]; exact h.num.c
    have hkc : keyIn S.m c := by
      have : ∀ {ls : List Layer}, (∀ x ∈ ls, x.keyed S.m) → baseOf ls = some c → keyIn S.m c := by
        intro ls
        induction ls with
        | nil => intro _ e; cases e
        | cons y r ih =>
          intro hr e
          cases y with
          | cached p c' => cases e; exact hr (.cached p c) (by simp)
          | limited p c' => cases e; exact hr (.limited p c) (by simp)
          | logged p l => exact ih (fun z hz => hr z (by simp [hz])) e
      exact this (mem_subL h.keyed) hb
    have hbs : (baseOf (subL S.ls n)).isSome = true := by rw [hb]; rfl
    simp only
    unfold gotG getC
    rw [er, hc]
    by_cases hit : c.full = true ∧ k = c.key
    · rw [if_pos hit, if_pos ⟨hany', hit.1, hit.2.symm⟩]
      refine ⟨rfl, rfl, ?_⟩
      have := rel_base h n hn { c with hits := wrap64 (c.hits + 1) } hbs ⟨wrap64_ok _, hco.2⟩ hkc
      exact this
    · rw [if_neg hit, if_neg (fun q => hit ⟨q.2.1, q.2.2.symm⟩)]
      by_cases h0 : (rowR S.m k).2.2 = 0
      · obtain ⟨ek, i, hi, eki, hhi, ev⟩ := rowR_key h0
        rw [if_pos h0, if_pos hany']
        refine ⟨rfl, h0, ?_⟩
        have e : keepC c (rowR S.m k).1 (rowR S.m k).2.1 (rowR S.m k).2.2 = { c with full := true, key := k, val := (rowR S.m k).2.1 } := by
          rw [keepC, if_pos h0, ek]
        rw [e]
        exact rel_base h n hn { c with full := true, key := k, val := (rowR S.m k).2.1 } hbs ⟨hco.1, by show i64ok k; rw [eki]; exact ⟨by omega, by omega⟩, by show i64ok (rowR S.m k).2.1; rw [ev]; exact h.ok.mok i hi⟩ (fun _ => ⟨i, hi, eki, hhi⟩)
      · rw [if_neg h0]
        refine ⟨rowR_err h0, rfl, ?_⟩
        have e : keepC c (rowR S.m k).1 (rowR S.m k).2.1 (rowR S.m k).2.2 = c := by rw [keepC, if_neg h0]
        rw [e]
        have := rel_base h n hn c hbs hco hkc
        rw [← hc] at this ⊢
        exact this

theorem clearL_eq : ∀ ls : List Layer, clearL ls = match baseOf ls with
    | none => ls
    | some c => setBase ls { c with full := false }
  | [] => rfl
  | .cached p c :: r => rfl
  | .limited p c :: r => rfl
  | .logged p l :: r => by
    have ih := clearL_eq r
    simp only [clearL, baseOf, setBase]
    rw [ih]
    cases baseOf r <;> rfl

theorem rel_m {S : RS} {g : GS} (h : Rel S g) (m' : MS) (hmo : m'.ok) (hmz : m'.zero) (hky : ∀ x ∈ S.ls, x.keyed m') : Rel ⟨m', S.ls, S.held⟩ { g with m := m' } :=
  ⟨⟨h.ok.len, h.ok.lay, hmo, h.ok.hld⟩, hmz, hky, rfl, h.n, RelL.congr h.lay (fun i _ => ⟨rfl, rfl, rfl, rfl, rfl⟩) rfl, h.free, h.noBase, h.heldN, h.heldS, ⟨h.num.num, h.num.c⟩⟩

theorem keyed_full {m m' : MS} {ls : List Layer} (h : ∀ x ∈ ls, x.keyed m) (hf : baseOf ls = none ∨ ∃ c, baseOf ls = some c ∧ c.full = false) (g : GS) (hl : RelL g ls) : ∀ x ∈ ls, x.keyed m' := by
  induction ls with
  | nil => intro x hx; cases hx
  | cons y r ih =>
    intro x hx
    cases y with
    | cached p c =>
      obtain ⟨rfl, _⟩ := hl
      rcases List.mem_cons.1 hx with rfl | hx
      · intro hc
        rcases hf with hf | ⟨c', hf, hff⟩
        · cases hf
        · cases hf; rw [hff] at hc; cases hc
      · cases hx
    | limited p c =>
      obtain ⟨rfl, _⟩ := hl
      rcases List.mem_cons.1 hx with rfl | hx
      · intro hc
        rcases hf with hf | ⟨c', hf, hff⟩
        · cases hf
        · cases hf; rw [hff] at hc; cases hc
      · cases hx
    | logged p l =>
      rcases List.mem_cons.1 hx with rfl | hx
      · trivial
      · exact ih (fun z hz => h z (by simp [hz])) hf hl.2.2.2.2.2 x hx

theorem rel_clear {S : RS} {g : GS} (h : Rel S g) : Rel (clearS S) { g with m := zeroM, c := { g.c with full := false } } := by
  have hmo : zeroM.ok := fun i _ => (⟨by decide, by decide⟩ : i64ok 0)
  have hmz : zeroM.zero := fun i _ _ => rfl
  rw [clearS, clearL_eq]
  cases hb : baseOf S.ls with
  | none =>
    have := rel_m h zeroM hmo hmz (keyed_full h.keyed (Or.inl hb) g h.lay)
    have e : ({ g.c with full := false } : CS) = g.c := by rw [h.noBase hb]
    rw [e]
    exact this
  | some c =>
    have hc := RelL.base h.lay hb
    have h1 := rel_base h S.ls.length (Nat.le_refl _) { c with full := false } (by rw [subL_all, hb]; rfl) (by have := h.num.c; rw [hc] at this; exact this) (fun hf => by cases hf)
    rw [subL_all, replL_all] at h1
    have h2 := rel_m h1 zeroM hmo hmz (keyed_full h1.keyed (Or.inr ⟨_, setBase_base _ _ (by rw [hb]; rfl), rfl⟩) _ h1.lay)
    rw [hc]
    exact h2

theorem w0 : wrap64 0 = 0 := by unfold wrap64; omega

theorem rel_hold {S : RS} {g : GS} (h : Rel S g) : Rel (holdS S) { g with held := g.n, thn := if 0 < g.n ∧ g.kind (g.n - 1) = 1 then wrap64 (g.puts (g.n - 1) + g.dels (g.n - 1)) else 0 } := by
  refine ⟨⟨h.ok.len, h.ok.lay, h.ok.mok, fun q a b e => by cases e; exact Nat.le_refl _⟩, h.zero, h.keyed, h.m, h.n, RelL.congr h.lay (fun i _ => ⟨rfl, rfl, rfl, rfl, rfl⟩) rfl, h.free, h.noBase, (fun e => by cases e), ?_, ⟨h.num.num, h.num.c⟩⟩
  intro q a b e
  cases e
  refine ⟨by show (g.n : Int) = _; rw [h.n], ?_⟩
  show (if 0 < g.n ∧ g.kind (g.n - 1) = 1 then wrap64 (g.puts (g.n - 1) + g.dels (g.n - 1)) else 0) = _
  have hl := h.lay
  rw [h.n]
  cases hls : S.ls with
  | nil => simp [tallyOf, w0]
  | cons x r =>
    rw [hls] at hl
    cases x with
    | cached p c =>
      obtain ⟨rfl, h1, _⟩ := hl
      simp [h1, tallyOf, w0]
    | limited p c =>
      obtain ⟨rfl, h1, _⟩ := hl
      simp [h1, tallyOf, w0]
    | logged p l =>
      obtain ⟨h1, h2, h3, _⟩ := hl
      simp [h1, h2, h3, tallyOf]

theorem rel_wrap {S : RS} {g : GS} (h : Rel S g) (q : Nat) (k b c : Int) (s t : ByteArray) :
    (owesG g ⟨1, k, b, c, s, t⟩).1 = ⟨wrapE S k, 0, 0, ⟨#[]⟩⟩ ∧ Rel (wrapS q S k) (owesG g ⟨1, k, b, c, s, t⟩).2 := by
  have he : owesG g ⟨1, k, b, c, s, t⟩ = if wrapE S k = 0 then (⟨0, 0, 0, ⟨#[]⟩⟩, { g with kind := upd g.kind g.n k, n := g.n + 1 }) else (⟨wrapE S k, 0, 0, ⟨#[]⟩⟩, g) := by
    have hne : S.ls ≠ [] ↔ 0 < S.ls.length := by
      cases S.ls <;> simp
    unfold wrapE
    rw [owesG, if_pos rfl, h.n]
    by_cases h1 : k ≠ 1 ∧ k ≠ 2 ∧ k ≠ 3
    · simp [h1]
    · rw [if_neg h1]
      by_cases h2 : 4 ≤ S.ls.length
      · simp [h1, h2]
      · by_cases h3 : k ≠ 1 ∧ 0 < S.ls.length
        · have h3' : k ≠ 1 ∧ S.ls ≠ [] := ⟨h3.1, hne.2 h3.2⟩
          simp only [if_neg h2, if_pos h3, if_neg h1, if_pos h3']
          rfl
        · have h3' : ¬ (k ≠ 1 ∧ S.ls ≠ []) := fun z => h3 ⟨z.1, hne.1 z.2⟩
          simp only [if_neg h2, if_neg h3, if_neg h1, if_neg h3', if_true]
  rw [he, wrapS]
  by_cases h0 : wrapE S k = 0
  · rw [if_pos h0, if_pos h0, h0]
    refine ⟨rfl, ?_⟩
    have hk : (k = 1 ∨ k = 2 ∨ k = 3) ∧ S.ls.length < 4 ∧ (k = 1 ∨ S.ls = []) := by
      unfold wrapE at h0
      split at h0
      · cases h0
      · rename_i h1
        split at h0
        · cases h0
        · rename_i h2
          split at h0
          · cases h0
          · rename_i h3
            refine ⟨by omega, by omega, ?_⟩
            by_cases e : k = 1
            · exact Or.inl e
            · exact Or.inr (Classical.byContradiction fun z => h3 ⟨e, z⟩)
    obtain ⟨hk1, hk2, hk3⟩ := hk
    have hlay0 : RelL { g with kind := upd g.kind g.n k, n := g.n + 1 } S.ls := RelL.congr h.lay (fun i hi => by
      have : i < S.ls.length := hi
      have hne : i ≠ g.n := by rw [h.n]; omega
      simp [upd, hne]) rfl
    have hnl : (newL q k).ok ∧ (newL q k).keyed S.m := by
      unfold newL
      split
      · exact ⟨⟨⟨by decide, by decide⟩, ⟨by decide, by decide⟩, fun _ _ e => by cases e⟩, trivial⟩
      · split
        · exact ⟨⟨⟨by decide, by decide⟩, ⟨by decide, by decide⟩, ⟨by decide, by decide⟩⟩, fun e => by cases e⟩
        · exact ⟨⟨⟨by decide, by decide⟩, ⟨by decide, by decide⟩, ⟨by decide, by decide⟩⟩, fun e => by cases e⟩
    refine ⟨⟨by simp; omega, ?_, h.ok.mok, fun q' a b' e => by have := h.ok.hld q' a b' e; simp; omega⟩, h.zero, ?_, h.m, by simp [h.n], ?_, ?_, ?_, h.heldN, h.heldS, ⟨h.num.num, h.num.c⟩⟩
    · intro x hx
      rcases List.mem_cons.1 hx with rfl | hx
      · exact hnl.1
      · exact h.ok.lay x hx
    · intro x hx
      rcases List.mem_cons.1 hx with rfl | hx
      · exact hnl.2
      · exact h.keyed x hx
    · obtain ⟨f1, f2, f3, f4⟩ := h.free S.ls.length (Nat.le_refl _)
      show RelL _ (newL q k :: S.ls)
      unfold newL
      by_cases e1 : k = 1
      · rw [if_pos e1]
        exact ⟨by simp [upd, h.n, e1], f1, f2, f3, f4, hlay0⟩
      · have hnil : S.ls = [] := (hk3.resolve_left e1)
        rw [if_neg e1]
        have hn0 : g.n = 0 := by rw [h.n, hnil]; rfl
        have hc0 := h.noBase (by rw [hnil]; rfl)
        by_cases e2 : k = 2
        · rw [if_pos e2]
          exact ⟨hnil, by simp [upd, hn0, e2], hc0⟩
        · rw [if_neg e2]
          have e3 : k = 3 := by omega
          exact ⟨hnil, by simp [upd, hn0, e3], hc0⟩
    · intro i hi
      have : S.ls.length + 1 ≤ i := by simpa using hi
      exact h.free i (by omega)
    · intro e
      refine h.noBase ?_
      have e' : baseOf (newL q k :: S.ls) = none := e
      unfold newL at e'
      split at e'
      · exact e'
      · split at e' <;> cases e'
  · rw [if_neg h0, if_neg h0]
    exact ⟨rfl, h⟩

theorem rel_hits {S : RS} {g : GS} (h : Rel S g) (a b c : Int) (s t : ByteArray) : owesG g ⟨7, a, b, c, s, t⟩ = (⟨(hitsL S.ls).2, (hitsL S.ls).1, 0, ⟨#[]⟩⟩, g) := by
  have hl := h.lay
  have e : owesG g ⟨7, a, b, c, s, t⟩ = if g.n = 0 ∨ g.kind (g.n - 1) = 1 then (⟨7, 0, 0, ⟨#[]⟩⟩, g) else (⟨0, g.c.hits, 0, ⟨#[]⟩⟩, g) := by simp [owesG]
  rw [e, h.n]
  cases hls : S.ls with
  | nil => simp [hitsL]
  | cons x r =>
    rw [hls] at hl
    cases x with
    | cached p c =>
      obtain ⟨rfl, h1, h2⟩ := hl
      simp [h1, hitsL, h2]
    | limited p c =>
      obtain ⟨rfl, h1, h2⟩ := hl
      simp [h1, hitsL, h2]
    | logged p l =>
      obtain ⟨h1, _⟩ := hl
      simp [h1, hitsL]

/-- One step: the two sides answer alike and stay alike. -/
theorem rel_step {S : RS} {g : GS} (h : Rel S g) (o : OpD) (ho : o.ok) (q : Nat) : (doR q S o).1 = owed g o ∧ Rel (doR q S o).2 (owesG g o).2 := by
  obtain ⟨kind, a, b, c, s, t⟩ := o
  have hno : ∀ x : AnsD × RS, kind ≠ 10 → x.1 = (owesG g ⟨kind, a, b, c, s, t⟩).1 → Rel x.2 (owesG g ⟨kind, a, b, c, s, t⟩).2 → x.1 = owed g ⟨kind, a, b, c, s, t⟩ ∧ Rel x.2 (owesG g ⟨kind, a, b, c, s, t⟩).2 := by
    intro x hk h1 h2
    rw [owed, if_neg hk]
    exact ⟨h1, h2⟩
  by_cases k1 : kind = 1
  · subst k1
    obtain ⟨e1, e2⟩ := rel_wrap h q a b c s t
    exact hno _ (by decide) e1.symm e2
  by_cases k2 : kind = 2
  · subst k2
    have := rel_get h S.ls.length (Nat.le_refl _) a
    rw [subL_all, replL_all, ← h.n] at this
    refine hno _ (by decide) ?_ this.2.2
    show (⟨_, _, 0, _⟩ : AnsD) = ⟨_, _, 0, _⟩
    rw [this.1, this.2.1]
  by_cases k3 : kind = 3
  · subst k3
    have := rel_put h S.ls.length (Nat.le_refl _) a b ho.1 ho.2
    rw [subL_all, replL_all, ← h.n] at this
    refine hno _ (by decide) ?_ this.2
    show (⟨_, 0, 0, _⟩ : AnsD) = ⟨_, 0, 0, _⟩
    rw [this.1]
  by_cases k4 : kind = 4
  · subst k4
    obtain ⟨e1, e2, e3⟩ := rel_del h a ho.1 b c s t
    refine hno _ (by decide) ?_ e3
    rw [e2]
    show (⟨_, 0, 0, _⟩ : AnsD) = ⟨_, 0, 0, _⟩
    rw [e1]
  by_cases k12 : kind = 12
  · subst k12
    exact hno _ (by decide) rfl (rel_clear h)
  by_cases k5 : kind = 5
  · subst k5
    refine hno _ (by decide) ?_ h
    show (⟨0, _, 0, _⟩ : AnsD) = ⟨0, _, 0, _⟩
    rw [h.m]
  by_cases k6 : kind = 6
  · subst k6
    refine hno _ (by decide) ?_ h
    show (⟨0, 0, 0, _⟩ : AnsD) = ⟨0, 0, 0, _⟩
    rw [rel_name h]
  by_cases k7 : kind = 7
  · subst k7
    refine hno _ (by decide) ?_ ?_
    · rw [rel_hits h]; rfl
    · rw [rel_hits h]; exact h
  by_cases k8 : kind = 8
  · subst k8
    exact hno _ (by decide) rfl (rel_hold h)
  by_cases k9 : kind = 9
  · subst k9
    cases hh : S.held with
    | none =>
      have e1 : doR q S ⟨9, a, b, c, s, t⟩ = (⟨8, 0, 0, ⟨#[]⟩⟩, S) := by
        show ((⟨(heldGetR S a).2.1, (heldGetR S a).1, 0, ⟨#[]⟩⟩ : AnsD), (heldGetR S a).2.2) = _
        rw [heldGetR, hh]
      have e2 : owesG g ⟨9, a, b, c, s, t⟩ = (⟨8, 0, 0, ⟨#[]⟩⟩, g) := by simp [owesG, (h.heldN hh).1]
      refine hno _ (by decide) ?_ ?_
      · rw [e1, e2]
      · rw [e1, e2]; exact h
    | some z =>
      obtain ⟨n, x, y⟩ := z
      have hn := h.ok.hld n x y hh
      have hr := rel_get h n hn a
      have e1 : doR q S ⟨9, a, b, c, s, t⟩ = (⟨(getL (subL S.ls n) S.m a).2.1, (getL (subL S.ls n) S.m a).1, 0, ⟨#[]⟩⟩, ⟨S.m, replL S.ls n (getL (subL S.ls n) S.m a).2.2, S.held⟩) := by
        show ((⟨(heldGetR S a).2.1, (heldGetR S a).1, 0, ⟨#[]⟩⟩ : AnsD), (heldGetR S a).2.2) = _
        rw [heldGetR, hh]
      have hg1 := (h.heldS n x y hh).1
      have e2 : owesG g ⟨9, a, b, c, s, t⟩ = (⟨(gotG g n a).2.1, (gotG g n a).1, 0, ⟨#[]⟩⟩, (gotG g n a).2.2) := by
        have h1 : ¬ g.held < 0 := by omega
        have h2 : g.held.toNat = n := by omega
        simp [owesG, h1, h2]
      refine hno _ (by decide) ?_ ?_
      · rw [e1, e2, hr.1, hr.2.1]
      · rw [e1, e2]; exact hr.2.2
  by_cases k13 : kind = 13
  · subst k13
    cases hh : S.held with
    | none =>
      have e1 : doR q S ⟨13, a, b, c, s, t⟩ = (⟨8, 0, 0, ⟨#[]⟩⟩, S) := by
        show ((⟨(heldPutR S a b).1, 0, 0, ⟨#[]⟩⟩ : AnsD), (heldPutR S a b).2) = _
        rw [heldPutR, hh]
      have e2 : owesG g ⟨13, a, b, c, s, t⟩ = (⟨8, 0, 0, ⟨#[]⟩⟩, g) := by simp [owesG, (h.heldN hh).1]
      refine hno _ (by decide) ?_ ?_
      · rw [e1, e2]
      · rw [e1, e2]; exact h
    | some z =>
      obtain ⟨n, x, y⟩ := z
      have hn := h.ok.hld n x y hh
      have hr := rel_put h n hn a b ho.1 ho.2
      have e1 : doR q S ⟨13, a, b, c, s, t⟩ = (⟨(putL (subL S.ls n) S.m a b).1, 0, 0, ⟨#[]⟩⟩, ⟨(putL (subL S.ls n) S.m a b).2.2, replL S.ls n (putL (subL S.ls n) S.m a b).2.1, S.held⟩) := by
        show ((⟨(heldPutR S a b).1, 0, 0, ⟨#[]⟩⟩ : AnsD), (heldPutR S a b).2) = _
        rw [heldPutR, hh]
      have hg1 := (h.heldS n x y hh).1
      have e2 : owesG g ⟨13, a, b, c, s, t⟩ = (⟨(laidG g n a b).1, 0, 0, ⟨#[]⟩⟩, (laidG g n a b).2) := by
        have h1 : ¬ g.held < 0 := by omega
        have h2 : g.held.toNat = n := by omega
        simp [owesG, h1, h2]
      refine hno _ (by decide) ?_ ?_
      · rw [e1, e2, hr.1]
      · rw [e1, e2]; exact hr.2
  by_cases k14 : kind = 14
  · subst k14
    refine hno _ (by decide) ?_ h
    show (⟨_, _, 0, _⟩ : AnsD) = ⟨_, _, 0, _⟩
    rw [rel_since h]
  by_cases k10 : kind = 10
  · subst k10
    have e : owesG g ⟨10, a, b, c, s, t⟩ = (⟨0, 0, 0, ⟨#[]⟩⟩, g) := by simp [owesG]
    refine ⟨?_, by rw [e]; exact h⟩
    rw [owed, if_pos rfl, e]
    show (⟨0, 0, 0, _⟩ : AnsD) = ⟨0, 0, 0, _⟩
    rw [rel_show h]
  by_cases k11 : kind = 11
  · subst k11
    exact hno _ (by decide) rfl h
  have e1 : doR q S ⟨kind, a, b, c, s, t⟩ = (⟨0, 0, 0, ⟨#[]⟩⟩, S) := by simp [doR, k1, k2, k3, k4, k12, k5, k6, k7, k8, k9, k13, k14, k10, k11]
  have e2 : owesG g ⟨kind, a, b, c, s, t⟩ = (⟨0, 0, 0, ⟨#[]⟩⟩, g) := by simp [owesG, k1, k2, k3, k4, k12, k5, k6, k7, k8, k9, k13, k14, k10, k11]
  refine hno _ k10 ?_ ?_
  · rw [e1, e2]
  · rw [e1, e2]; exact h

def gZero : GS := ⟨zeroM, 0, fun _ => 0, fun _ => 0, fun _ => 0, fun _ => 0, fun _ => 0, ⟨0, 0, 0, false⟩, -1, 0⟩
def sZero : RS := ⟨zeroM, [], none⟩
theorem rel_zero : Rel sZero gZero := by
  have z : i64ok 0 := ⟨by decide, by decide⟩
  exact ⟨⟨by simp [sZero], (fun x hx => by cases hx), fun i _ => z, (fun q a b e => by cases e)⟩, fun i _ _ => rfl, (fun x hx => by cases hx), rfl, rfl, trivial, fun i _ => ⟨rfl, rfl, rfl, rfl⟩, fun _ => rfl, fun _ => ⟨rfl, rfl⟩, (fun q a b e => by cases e), ⟨fun i => ⟨z, z, z, Or.inl rfl⟩, ⟨z, z, z⟩⟩⟩
end Go.Proofs.Qxb6500371a.W
