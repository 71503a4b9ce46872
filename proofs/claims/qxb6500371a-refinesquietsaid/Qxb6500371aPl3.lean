import Derived.Test.Qxb6500371aPl2
set_option linter.unusedVariables false
set_option linter.unusedSimpArgs false
namespace Go.Proofs.Qxb6500371a.W
open Go.RowKit Go.Maps

theorem base_sh {a b : List Layer} (h : a.map Layer.sh = b.map Layer.sh) : (baseOf a).isSome = (baseOf b).isSome := by
  induction a generalizing b with
  | nil => cases b with
    | nil => rfl
    | cons => simp at h
  | cons x r ih => cases b with
    | nil => simp at h
    | cons y s =>
      simp only [List.map_cons, List.cons.injEq] at h
      obtain ⟨h1, h2⟩ := h
      cases x <;> cases y <;> simp [Layer.sh] at h1 <;> simp [baseOf]
      exact ih h2

theorem base_sub : ∀ {a b : List Layer}, baseOf (a ++ b) = none → baseOf b = none
  | [], b, h => h
  | .cached p c :: a, b, h => by cases h
  | .limited p c :: a, b, h => by cases h
  | .logged p l :: a, b, h => base_sub (a := a) h

theorem turnLs_sh (ev : Bool) (k : Int) : ∀ ls : List Layer, (turnLs ev k ls).map Layer.sh = ls.map Layer.sh
  | [] => rfl
  | .cached p c :: r => rfl
  | .limited p c :: r => rfl
  | .logged p l :: r => by simp [turnLs, Layer.sh, turnLs_sh ev k r]
theorem setBase_sh (c : CS) : ∀ ls : List Layer, (setBase ls c).map Layer.sh = ls.map Layer.sh
  | [] => rfl
  | .cached p c' :: r => rfl
  | .limited p c' :: r => rfl
  | .logged p l :: r => by simp [setBase, Layer.sh, setBase_sh c r]

theorem mem_turnLs {P : Layer → Prop} (ev : Bool) (k : Int) (hc : ∀ p c, P (.cached p c) → P (.cached p (forgetC c k))) (hl : ∀ p c, P (.limited p c) → P (.limited p (forgetC c k)))
    (hg : ∀ p l, P (.logged p l) → P (.logged p (if ev then ⟨wrap64 (l.puts + 1), l.dels, some (true, k)⟩ else ⟨l.puts, wrap64 (l.dels + 1), some (false, k)⟩))) : ∀ {ls : List Layer}, (∀ x ∈ ls, P x) → ∀ x ∈ turnLs ev k ls, P x
  | [], h, x, hx => by cases hx
  | .cached p c :: r, h, x, hx => by
    rcases List.mem_cons.1 hx with rfl | hx
    · exact hc p c (h _ (by simp))
    · exact h x (by simp [hx])
  | .limited p c :: r, h, x, hx => by
    rcases List.mem_cons.1 hx with rfl | hx
    · exact hl p c (h _ (by simp))
    · exact h x (by simp [hx])
  | .logged p l :: r, h, x, hx => by
    rcases List.mem_cons.1 hx with rfl | hx
    · exact hg p l (h _ (by simp))
    · exact mem_turnLs ev k hc hl hg (fun y hy => h y (by simp [hy])) x hx

theorem mem_setBase {P : Layer → Prop} (c : CS) (hc : ∀ p, P (.cached p c)) (hl : ∀ p, P (.limited p c)) : ∀ {ls : List Layer}, (∀ x ∈ ls, P x) → ∀ x ∈ setBase ls c, P x
  | [], h, x, hx => by cases hx
  | .cached p c' :: r, h, x, hx => by
    rcases List.mem_cons.1 hx with rfl | hx
    · exact hc p
    · exact h x (by simp [hx])
  | .limited p c' :: r, h, x, hx => by
    rcases List.mem_cons.1 hx with rfl | hx
    · exact hl p
    · exact h x (by simp [hx])
  | .logged p l :: r, h, x, hx => by
    rcases List.mem_cons.1 hx with rfl | hx
    · exact h _ (by simp)
    · exact mem_setBase c hc hl (fun y hy => h y (by simp [hy])) x hx

theorem forgetC_ok {c : CS} (h : c.ok) (k : Int) : (forgetC c k).ok := by
  unfold forgetC
  split <;> exact h

theorem ok_turnLs (ev : Bool) {k : Int} (hk : i64ok k) {ls : List Layer} (h : ∀ x ∈ ls, x.ok) : ∀ x ∈ turnLs ev k ls, x.ok := by
  refine mem_turnLs ev k (fun p c hc => forgetC_ok hc k) (fun p c hc => forgetC_ok hc k) ?_ h
  intro p l hl
  cases ev with
  | true => exact ⟨wrap64_ok _, hl.2.1, fun b j hj => by cases hj; exact hk⟩
  | false => exact ⟨hl.1, wrap64_ok _, fun b j hj => by cases hj; exact hk⟩

theorem keyIn_mono {m m' : MS} (hm : ∀ i, m.has i = true → m'.has i = true) {c : CS} (h : keyIn m c) : keyIn m' c := fun hf => by
  obtain ⟨i, h1, h2, h3⟩ := h hf
  exact ⟨i, h1, h2, hm i h3⟩
theorem keyIn_forget {m : MS} {c : CS} (k : Int) (h : keyIn m c) : keyIn m (forgetC c k) := by
  unfold forgetC
  split
  · intro hf; cases hf
  · exact h
theorem keyed_mono {m m' : MS} (hm : ∀ i, m.has i = true → m'.has i = true) {x : Layer} (h : x.keyed m) : x.keyed m' := by
  cases x with
  | cached p c => exact keyIn_mono hm h
  | limited p c => exact keyIn_mono hm h
  | logged p l => trivial

theorem mem_replL {P : Layer → Prop} {ls b : List Layer} {n : Nat} (h : ∀ x ∈ ls, P x) (hb : ∀ x ∈ b, P x) : ∀ x ∈ replL ls n b, P x := by
  intro x hx
  rcases List.mem_append.1 hx with hx | hx
  · exact h x (List.mem_of_mem_take hx)
  · exact hb x hx
theorem mem_subL {P : Layer → Prop} {ls : List Layer} {n : Nat} (h : ∀ x ∈ ls, P x) : ∀ x ∈ subL ls n, P x := fun x hx => h x (List.mem_of_mem_drop hx)

theorem replL_len {ls b : List Layer} {n : Nat} (hn : n ≤ ls.length) (hb : b.length = n) : (replL ls n b).length = ls.length := by
  simp [replL, hb]; omega

theorem GNum.turn {g : GS} (h : GNum g) {ev k : Int} (he : ev = 80 ∨ ev = 68) (hk : i64ok k) : ∀ j, GNum (turnG g ev k j)
  | 0 => h
  | j + 1 => by
    have ih := GNum.turn h he hk j
    rw [turnG, turn1]
    split
    · split
      · exact ⟨ih.num, ih.c⟩
      · exact ih
    · split
      · refine ⟨fun i => ?_, ih.c⟩
        by_cases hi : i = j
        · subst hi; simp only [upd, if_true]; exact ⟨wrap64_ok _, (ih.num i).2.1, hk, by omega⟩
        · simp only [upd, if_neg hi]; exact ih.num i
      · refine ⟨fun i => ?_, ih.c⟩
        by_cases hi : i = j
        · subst hi; simp only [upd, if_true]; exact ⟨(ih.num i).1, wrap64_ok _, hk, by omega⟩
        · simp only [upd, if_neg hi]; exact ih.num i

/-- A turn of the innermost n layers; the table now reads m'. -/
theorem rel_turn {S : RS} {g : GS} (h : Rel S g) (n : Nat) (hn : n ≤ S.ls.length) (ev : Bool) (k : Int) (hk : i64ok k) (m' : MS) (hmo : m'.ok) (hmz : m'.zero)
    (hky : ∀ x ∈ replL S.ls n (turnLs ev k (subL S.ls n)), x.keyed m') :
    Rel ⟨m', replL S.ls n (turnLs ev k (subL S.ls n)), S.held⟩ (turnG { g with m := m' } (if ev then 80 else 68) k n) := by
  have hsl := sub_len S.ls n hn
  have hrl : (replL S.ls n (turnLs ev k (subL S.ls n))).length = S.ls.length := replL_len hn (by rw [turnLs_len, hsl])
  have hsub : RelL { g with m := m' } (subL S.ls n) := RelL.congr (h.sub n) (fun i _ => ⟨rfl, rfl, rfl, rfl, rfl⟩) rfl
  have hag := turnG_agree { g with m := m' } (if ev then 80 else 68) k n
  have hrs := turnG_rest { g with m := m' } (if ev then 80 else 68) k n
  refine ⟨⟨by show (replL _ _ _).length ≤ 4; rw [hrl]; exact h.ok.len, mem_replL h.ok.lay (ok_turnLs ev hk (mem_subL h.ok.lay)), hmo, fun q a b hq => by show q ≤ (replL _ _ _).length; rw [hrl]; exact h.ok.hld q a b hq⟩,
    hmz, hky, turnG_m _ _ _ _, ?_, ?_, ?_, ?_, ?_, ?_, ?_⟩
  · show (turnG _ _ _ _).n = (replL _ _ _).length
    rw [hrs.1, hrl]; exact h.n
  · have ht := RelL.turn ev k hsub
    rw [hsl] at ht
    refine RelL.repl (b := subL S.ls n) (turnLs_len _ _ _) ht ?_ ?_ ?_ (g := { g with m := m' })
    · rw [hsl]; exact hag
    · intro hb
      have : n = 0 := by rw [hb] at hsl; simpa using hsl.symm
      subst this
      rfl
    · rw [take_sub]
      exact RelL.congr h.lay (fun i _ => ⟨rfl, rfl, rfl, rfl, rfl⟩) rfl
  · intro i hi
    have hi' : S.ls.length ≤ i := by have : (replL S.ls n (turnLs ev k (subL S.ls n))).length ≤ i := hi; omega
    obtain ⟨_, a2, a3, a4, a5⟩ := hag i (by show n ≤ i; omega)
    obtain ⟨f1, f2, f3, f4⟩ := h.free i hi'
    exact ⟨a2.trans f1, a3.trans f2, a4.trans f3, a5.trans f4⟩
  · intro hb
    have hb' : baseOf (replL S.ls n (turnLs ev k (subL S.ls n))) = none := hb
    have e1 := base_sh (repl_sh (ls := S.ls) (h := n) (turnLs_sh ev k (subL S.ls n)))
    rw [hb'] at e1
    have e2 : baseOf S.ls = none := by simpa using e1.symm
    have e3 : baseOf (subL S.ls n) = none := by rw [← take_sub S.ls n] at e2; exact base_sub e2
    have := turnG_c (g := { g with m := m' }) (if ev then 80 else 68) k hsub e3
    rw [hsl] at this
    rw [this]
    exact h.noBase e2
  · intro hq
    rw [hrs.2.1, hrs.2.2]
    exact h.heldN hq
  · intro q a b hq
    rw [hrs.2.1, hrs.2.2]
    exact h.heldS q a b hq
  · exact GNum.turn (g := { g with m := m' }) ⟨h.num.num, h.num.c⟩ (by cases ev; exact Or.inr rfl; exact Or.inl rfl) hk n

theorem putM_has (m : MS) (k v : Int) : ∀ i, m.has i = true → (putM m k v).2.has i = true := by
  intro i hi
  unfold putM
  split
  · simp only [MS.setVal, MS.setHas]
    split
    · rfl
    · exact hi
  · exact hi
theorem putM_ok {m : MS} (h : m.ok) (k : Int) {v : Int} (hv : i64ok v) : (putM m k v).2.ok := by
  intro i hi
  unfold putM
  split
  · simp only [MS.setVal, MS.setHas]
    split
    · exact hv
    · exact h i hi
  · exact h i hi
theorem putM_zero {m : MS} (h : m.zero) (k v : Int) : (putM m k v).2.zero := by
  intro i hi
  unfold putM
  split
  · simp only [MS.setVal, MS.setHas]
    split
    · intro e; cases e
    · exact h i hi
  · exact h i hi

theorem replL_self (ls : List Layer) (n : Nat) : replL ls n (subL ls n) = ls := take_sub ls n

/-- Put at the innermost n layers. -/
theorem rel_put {S : RS} {g : GS} (h : Rel S g) (n : Nat) (hn : n ≤ S.ls.length) (k v : Int) (hk : i64ok k) (hv : i64ok v) :
    (putL (subL S.ls n) S.m k v).1 = (laidG g n k v).1 ∧ Rel ⟨(putL (subL S.ls n) S.m k v).2.2, replL S.ls n (putL (subL S.ls n) S.m k v).2.1, S.held⟩ (laidG g n k v).2 := by
  have hsl := sub_len S.ls n hn
  have hlim := RelL.lim (h.sub n)
  rw [hsl] at hlim
  have he : laidG g n k v = if putE (subL S.ls n) S.m k = 0 then (0, turnG { g with m := (putM S.m k v).2 } 80 k n) else (putE (subL S.ls n) S.m k, g) := by
    unfold putE laidG
    rw [h.m]
    by_cases hi : inB k = true
    · simp only [hi, if_true]
      by_cases hl : limOf (subL S.ls n) = true ∧ S.m.has k.toNat = false ∧ 2 ≤ S.m.cnt
      · have hl' : 0 < n ∧ g.kind 0 = 3 ∧ S.m.has k.toNat = false ∧ 2 ≤ S.m.cnt := ⟨(hlim.1 hl.1).1, (hlim.1 hl.1).2, hl.2.1, hl.2.2⟩
        rw [if_pos hl, if_pos hl', if_neg (by decide)]
      · have hl' : ¬ (0 < n ∧ g.kind 0 = 3 ∧ S.m.has k.toNat = false ∧ 2 ≤ S.m.cnt) := fun q => hl ⟨hlim.2 ⟨q.1, q.2.1⟩, q.2.2⟩
        rw [if_neg hl, if_neg hl', if_pos rfl]
    · simp [hi]
  rw [putL_eq, he]
  by_cases h0 : putE (subL S.ls n) S.m k = 0
  · simp only [h0, if_true]
    refine ⟨trivial, ?_⟩
    refine rel_turn h n hn true k hk _ (putM_ok h.ok.mok k hv) (putM_zero h.zero k v) ?_
    refine mem_replL (fun x hx => keyed_mono (putM_has _ _ _) (h.keyed x hx)) ?_
    refine mem_turnLs true k (P := fun x => x.keyed (putM S.m k v).2) (fun p c hc => keyIn_forget k hc) (fun p c hc => keyIn_forget k hc) (fun p l _ => trivial) (mem_subL (fun x hx => keyed_mono (putM_has _ _ _) (h.keyed x hx)))
  · simp only [h0, if_false]
    refine ⟨trivial, ?_⟩
    rw [replL_self]
    exact h

theorem delM_ok2 {m : MS} (h : m.ok) (k : Int) : (delM m k).2.ok := by
  intro i hi
  unfold delM
  split
  · split
    · simp only [MS.setVal, MS.setHas]
      split
      · exact ⟨by decide, by decide⟩
      · exact h i hi
    · exact h i hi
  · exact h i hi
theorem delM_zero {m : MS} (h : m.zero) (k : Int) : (delM m k).2.zero := by
  intro i hi
  unfold delM
  split
  · split
    · simp only [MS.setVal, MS.setHas]
      split
      · intro _; rfl
      · exact h i hi
    · exact h i hi
  · exact h i hi
theorem delM_has {m : MS} {k : Int} (h0 : (delM m k).1 = 0) (i : Nat) (hi : (i : Int) ≠ k) (hh : m.has i = true) : (delM m k).2.has i = true := by
  unfold delM at h0 ⊢
  split
  · rename_i hb
    rw [if_pos hb] at h0
    split
    · simp only [MS.setVal, MS.setHas]
      have : i ≠ k.toNat := by simp [inB] at hb; omega
      simp [this, hh]
    · exact hh
  · exact hh

/-- Del at the top. -/
theorem rel_del {S : RS} {g : GS} (h : Rel S g) (k : Int) (hk : i64ok k) (b c : Int) (s t : ByteArray) :
    (delL S.ls S.m k).1 = (owesG g ⟨4, k, b, c, s, t⟩).1.e ∧ (owesG g ⟨4, k, b, c, s, t⟩).1 = ⟨(owesG g ⟨4, k, b, c, s, t⟩).1.e, 0, 0, ⟨#[]⟩⟩ ∧ Rel (delS S k) (owesG g ⟨4, k, b, c, s, t⟩).2 := by
  have he : owesG g ⟨4, k, b, c, s, t⟩ = if (delM S.m k).1 = 0 then (⟨0, 0, 0, ⟨#[]⟩⟩, turnG { g with m := (delM S.m k).2 } 68 k g.n) else (⟨(delM S.m k).1, 0, 0, ⟨#[]⟩⟩, g) := by
    simp [owesG, h.m]
  rw [delS, delL_eq, he]
  by_cases h0 : (delM S.m k).1 = 0
  · simp only [h0, if_true]
    refine ⟨trivial, trivial, ?_⟩
    have hq := rel_turn h S.ls.length (Nat.le_refl _) false k hk (delM S.m k).2 (delM_ok2 h.ok.mok k) (delM_zero h.zero k) ?_
    · rw [subL_all, replL_all] at hq
      rw [← h.n] at hq
      exact hq
    · rw [subL_all, replL_all]
      have hkc : ∀ c : CS, keyIn S.m c → keyIn (delM S.m k).2 (forgetC c k) := by
        intro c hc
        unfold forgetC
        split
        · intro hf; cases hf
        · rename_i hne
          intro hf
          obtain ⟨i, h1, h2, h3⟩ := hc hf
          exact ⟨i, h1, h2, delM_has h0 i (by intro e; exact hne (by rw [h2, e])) h3⟩
      intro x hx
      have : ∀ {ls : List Layer}, (∀ x ∈ ls, x.keyed S.m) → RelL g ls → ∀ x ∈ turnLs false k ls, x.keyed (delM S.m k).2 := by
        intro ls
        induction ls with
        | nil => intro _ _ x hx; cases hx
        | cons y r ih =>
          intro hr hl x hx
          cases y with
          | cached p c =>
            obtain ⟨rfl, _⟩ := hl
            rcases List.mem_cons.1 hx with rfl | hx
            · exact hkc c (hr (.cached p c) (by simp))
            · cases hx
          | limited p c =>
            obtain ⟨rfl, _⟩ := hl
            rcases List.mem_cons.1 hx with rfl | hx
            · exact hkc c (hr (.limited p c) (by simp))
            · cases hx
          | logged p l =>
            rcases List.mem_cons.1 hx with rfl | hx
            · trivial
            · exact ih (fun z hz => hr z (by simp [hz])) hl.2.2.2.2.2 x hx
      exact this h.keyed h.lay x hx
  · simp only [h0, if_false]
    exact ⟨trivial, trivial, h⟩
end Go.Proofs.Qxb6500371a.W
