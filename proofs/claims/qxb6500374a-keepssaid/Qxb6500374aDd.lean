import Derived.Test.Qxb6500374aSh
set_option linter.unusedVariables false
set_option linter.unusedSimpArgs false
namespace Go.Proofs.Qxb6500374a.W
open Go.RowKit Go.Maps

structure OpD where
  kind : Int
  a : Int
  b : Int
  c : Int
  s : ByteArray
  t : ByteArray
structure AnsD where
  e : Int
  n : Int
  m : Int
  s : ByteArray
abbrev opV (o : OpD) : Value := .agg #[.int .i64 o.kind, .int .i64 o.a, .int .i64 o.b, .int .i64 o.c, .string o.s, .string o.t]
abbrev ansCells (e n m : Int) (s : ByteArray) : Array Value := #[.int .i64 e, .int .i64 n, .int .i64 m, .string s]
def ansV (r : AnsD) : Value := .agg (ansCells r.e r.n r.m r.s)

/-- The answer to a step. -/
def ansD (S : WS) (o : OpD) : AnsD :=
  if o.kind = 1 then ⟨(linkS S o.a o.b).1, 0, 0, ⟨#[]⟩⟩
  else if o.kind = 2 then ⟨(cutS S o.a o.b).1, 0, 0, ⟨#[]⟩⟩
  else if o.kind = 3 then ⟨(reachS S o.a 0).2.2.1, (reachS S o.a 0).1, 0, (reachS S o.a 0).2.1⟩
  else if o.kind = 4 then ⟨(twinsS S o.a 0).2.2.2.1, (twinsS S o.a 0).1, (twinsS S o.a 0).2.1, (twinsS S o.a 0).2.2.1⟩
  else if o.kind = 5 then ⟨(noteS S o.a o.b).1, 0, 0, ⟨#[]⟩⟩
  else if o.kind = 6 then ⟨(countS S o.a o.b).2, (countS S o.a o.b).1, 0, ⟨#[]⟩⟩
  else if o.kind = 7 then ⟨(dropS S o.a o.b).2.1, (dropS S o.a o.b).1, 0, ⟨#[]⟩⟩
  else if o.kind = 8 then ⟨0, sizeS S, 0, ⟨#[]⟩⟩
  else if o.kind = 9 then ⟨0, S.nn, 0, ⟨#[]⟩⟩
  else if o.kind = 10 then ⟨0, sizeS S, 0, ⟨#[]⟩⟩
  else if o.kind = 13 then ⟨0, sizeS S - sizeS (pruneS S o.a), 0, ⟨#[]⟩⟩
  else if o.kind = 11 then ⟨0, 0, 0, showS S⟩
  else if o.kind = 12 then ⟨0, 1, 0, ⟨#[]⟩⟩
  else ⟨0, 0, 0, ⟨#[]⟩⟩
/-- What a step leaves; r: the rounds of a search. -/
def stepD (S : WS) (o : OpD) (r : Nat) : WS :=
  if o.kind = 1 then (linkS S o.a o.b).2
  else if o.kind = 2 then (cutS S o.a o.b).2
  else if o.kind = 3 then (reachS S o.a r).2.2.2
  else if o.kind = 4 then (twinsS S o.a r).2.2.2.2
  else if o.kind = 5 then (noteS S o.a o.b).2
  else if o.kind = 7 then (dropS S o.a o.b).2.2
  else if o.kind = 10 then wipeS S
  else if o.kind = 13 then pruneS S o.a
  else S

theorem reachS_r (S : WS) (s : Int) (r : Nat) : (reachS S s r).1 = (reachS S s 0).1 ∧ (reachS S s r).2.1 = (reachS S s 0).2.1 ∧ (reachS S s r).2.2.1 = (reachS S s 0).2.2.1 := by
  unfold reachS; split <;> exact ⟨rfl, rfl, rfl⟩
theorem twinsS_r (S : WS) (s : Int) (r : Nat) : (twinsS S s r).1 = (twinsS S s 0).1 ∧ (twinsS S s r).2.1 = (twinsS S s 0).2.1 ∧ (twinsS S s r).2.2.1 = (twinsS S s 0).2.2.1 ∧ (twinsS S s r).2.2.2.1 = (twinsS S s 0).2.2.2.1 := by
  unfold twinsS; split <;> exact ⟨rfl, rfl, rfl, rfl⟩

/-- The three new blocks of a player: the step, the result, the answer. -/
def doW (w : World) (o : OpD) : World := ((w.alloc (.cells #[.int .i64 o.kind, .int .i64 o.a, .int .i64 o.b, .int .i64 o.c, .string o.s, .string o.t] 63)).alloc (.cells (ansCells 0 0 0 ⟨#[]⟩) 65)).alloc (.cells (ansCells 0 0 0 ⟨#[]⟩) 65)
theorem doW_chg (w : World) (o : OpD) (bs : List Nat) : Chg bs w (doW w o) := (((Chg.refl _ _).alloc _).alloc _).alloc _
theorem doW_size (w : World) (o : OpD) : (doW w o).heap.size = w.heap.size + 3 := by simp [doW]
theorem doW_a (w : World) (o : OpD) : (doW w o).heap[w.heap.size + 2]? = some (.cells (ansCells 0 0 0 ⟨#[]⟩) 65 (0, 0)) := by
  have := heap_alloc_new ((w.alloc (.cells #[.int .i64 o.kind, .int .i64 o.a, .int .i64 o.b, .int .i64 o.c, .string o.s, .string o.t] 63)).alloc (.cells (ansCells 0 0 0 ⟨#[]⟩) 65)) (.cells (ansCells 0 0 0 ⟨#[]⟩) 65)
  have e : ((w.alloc (.cells #[.int .i64 o.kind, .int .i64 o.a, .int .i64 o.b, .int .i64 o.c, .string o.s, .string o.t] 63)).alloc (.cells (ansCells 0 0 0 ⟨#[]⟩) 65)).heap.size = w.heap.size + 2 := by simp
  rw [e] at this
  exact this
theorem doW_r (w : World) (o : OpD) : (doW w o).heap[w.heap.size + 1]? = some (.cells (ansCells 0 0 0 ⟨#[]⟩) 65 (0, 0)) := by
  have := heap_alloc_new (w.alloc (.cells #[.int .i64 o.kind, .int .i64 o.a, .int .i64 o.b, .int .i64 o.c, .string o.s, .string o.t] 63)) (.cells (ansCells 0 0 0 ⟨#[]⟩) 65)
  have e : (w.alloc (.cells #[.int .i64 o.kind, .int .i64 o.a, .int .i64 o.b, .int .i64 o.c, .string o.s, .string o.t] 63)).heap.size = w.heap.size + 1 := by simp
  rw [e] at this
  exact Chg.keep (bs := []) ((Chg.refl _ _).alloc _) this (by simp)
theorem doW_keep {w w2 : World} {o : OpD} {bs : List Nat} (hlt : ∀ x ∈ bs, x < w.heap.size) (hc : Chg bs (doW w o) w2) :
    w2.heap[w.heap.size + 1 + 1]? = some (.cells (ansCells 0 0 0 ⟨#[]⟩) 65 (0, 0)) ∧ w2.heap[w.heap.size + 1]? = some (.cells (ansCells 0 0 0 ⟨#[]⟩) 65 (0, 0)) :=
  ⟨hc.keep (doW_a w o) (fun hx => by have := hlt _ hx; omega), hc.keep (doW_r w o) (fun hx => by have := hlt _ hx; omega)⟩
theorem doW_fin {w w2 w3 : World} {o : OpD} {bs : List Nat} (h : Chg bs (doW w o) w2) (hc : Chg [w.heap.size + 1 + 1, w.heap.size + 1] w2 w3) : Chg bs w w3 := by
  have h1 : Chg bs w w2 := (doW_chg w o _).trans h
  refine ⟨hc.os.trans h1.os, hc.tape.trans h1.tape, hc.output.trans h1.output, Nat.le_trans h1.size hc.size, fun k hk hn => ?_⟩
  rw [hc.block k (Nat.lt_of_lt_of_le hk h1.size) (by simp; omega)]
  exact h1.block k hk hn

theorem Chg.px {w : World} {px i : Nat} {v : Value} {a : World} (h : Chg [px] a w) : Chg [px] a (w.setCell ⟨px, i, none⟩ v) := h.setCell (Or.inl (by simp)) v

/-- What a body that lays its answer into block A and hands it back through block R leaves. -/
theorem ans_row {w2 : World} {A R : Nat} (hAR : A ≠ R) (hA : w2.heap[A]? = some (.cells (ansCells 0 0 0 ⟨#[]⟩) 65 (0, 0))) (hR : w2.heap[R]? = some (.cells (ansCells 0 0 0 ⟨#[]⟩) 65 (0, 0))) {w1 : World} (hc : Chg [A] w2 w1) (e n m : Value) (s : Value) :
    ((((w1.setCell ⟨R, 0, none⟩ e).setCell ⟨R, 1, none⟩ n).setCell ⟨R, 2, none⟩ m).setCell ⟨R, 3, none⟩ s).heap[R]? = some (.cells #[e, n, m, s] 65 (0, 0)) := by
  have g0 : w1.heap[R]? = some (.cells (ansCells 0 0 0 ⟨#[]⟩) 65 (0, 0)) := hc.keep hR (by simpa using hAR.symm)
  have g1 := heap_setCell_same _ R 0 _ _ e g0
  have g2 := heap_setCell_same _ R 1 _ _ n g1
  have g3 := heap_setCell_same _ R 2 _ _ m g2
  have g4 := heap_setCell_same _ R 3 _ _ s g3
  rw [g4]
  simp
theorem ans_chg {w2 w1 : World} {A R : Nat} (hc : Chg [A] w2 w1) (e n m s : Value) : Chg [A, R] w2 ((((w1.setCell ⟨R, 0, none⟩ e).setCell ⟨R, 1, none⟩ n).setCell ⟨R, 2, none⟩ m).setCell ⟨R, 3, none⟩ s) :=
  (((((hc.mono (by simp)).setCell (Or.inl (by simp)) _).setCell (Or.inl (by simp)) _).setCell (Or.inl (by simp)) _).setCell (Or.inl (by simp)) _)

theorem WStp.fin {w w2 w3 : World} {o : OpD} {px pa ph : Nat} {B C : Nat → Nat} {S S' : WS} (h : WAt w px pa ph B C S) (hA : AOk S.A) (hA' : AOk S'.A) (hs : WStp px pa ph B C S S' (doW w o) w2) (hc : Chg [w.heap.size + 1 + 1, w.heap.size + 1] w2 w3) : WStp px pa ph B C S S' w w3 := by
  have hlt := h.lt hA
  obtain ⟨⟨B', C', h1, h2⟩, h3⟩ := hs
  refine ⟨⟨B', C', h1.chg hA' hc ?_, ?_⟩, doW_fin h3 hc⟩
  · intro x hx hm
    simp only [List.mem_cons, List.not_mem_nil, or_false] at hm
    rcases h2 x hx with e | e
    · have := hlt x e; omega
    · rw [doW_size] at e; omega
  · intro x hx
    rcases h2 x hx with e | e
    · exact Or.inl e
    · rw [doW_size] at e; exact Or.inr (by omega)

/-- The plain state's bounds: the counts are below what any script can reach. -/
structure WS.good (S : WS) (N : Nat) : Prop where
  ok : S.ok
  cap : ∀ j, j < 7 → S.cn j ≤ N

theorem cutS_ok {S : WS} (h : S.ok) (a b : Int) : (cutS S a b).2.ok := by
  unfold cutS
  split
  · exact h
  · rename_i hn
    split
    · rename_i hm
      refine ⟨?_, h.small⟩
      have ha : isN a = true := by cases e : isN a <;> simp_all
      obtain ⟨k, hk, rfl⟩ := isN_iff.1 ha
      simp only [Int.toNat_natCast] at hm ⊢
      refine aok_put h.aok hk ?_ ((h.aok.one k).erase _) (fun x hx => h.aok.lt k x (List.mem_of_mem_erase hx))
      have := List.length_erase_of_mem hm
      have := h.aok.len k
      omega
    · exact h
theorem reachS_ok {S : WS} (h : S.ok) (s : Int) (r : Nat) : (reachS S s r).2.2.2.ok := by
  unfold reachS; split
  · exact ⟨h.aok, h.small⟩
  · exact h
theorem twinsS_ok {S : WS} (h : S.ok) (s : Int) (r : Nat) : (twinsS S s r).2.2.2.2.ok := by
  unfold twinsS; split
  · exact ⟨h.aok, h.small⟩
  · exact h
theorem nums_put {cn : Nat → Int} {j : Nat} {x : Int} : nums (upd cn j x) ≤ nums cn + 1 ∧ (0 < cn j → nums (upd cn j x) ≤ nums cn) := by
  have h := fun i => one1_le (cn i)
  have key : ∀ i, one1 (upd cn j x i) = if i = j then one1 x else one1 (cn i) := by intro i; unfold upd; split <;> rfl
  have hx := one1_le x
  unfold nums
  simp only [key]
  constructor
  · by_cases h0 : (0:Nat) = j
    · subst h0; simp; omega
    by_cases h1 : (1:Nat) = j
    · subst h1; simp; omega
    by_cases h2 : (2:Nat) = j
    · subst h2; simp; omega
    by_cases h3 : (3:Nat) = j
    · subst h3; simp; omega
    by_cases h4 : (4:Nat) = j
    · subst h4; simp; omega
    by_cases h5 : (5:Nat) = j
    · subst h5; simp; omega
    by_cases h6 : (6:Nat) = j
    · subst h6; simp; omega
    simp [h0, h1, h2, h3, h4, h5, h6]
  · intro hp
    have e : one1 (cn j) = 1 := by unfold one1; rw [if_pos hp]
    by_cases h0 : (0:Nat) = j
    · subst h0; simp; omega
    by_cases h1 : (1:Nat) = j
    · subst h1; simp; omega
    by_cases h2 : (2:Nat) = j
    · subst h2; simp; omega
    by_cases h3 : (3:Nat) = j
    · subst h3; simp; omega
    by_cases h4 : (4:Nat) = j
    · subst h4; simp; omega
    by_cases h5 : (5:Nat) = j
    · subst h5; simp; omega
    by_cases h6 : (6:Nat) = j
    · subst h6; simp; omega
    simp [h0, h1, h2, h3, h4, h5, h6]
theorem noteS_ok {S : WS} (h : S.ok) (hp : ∀ j, j < 7 → 0 ≤ S.cn j) (a b : Int) : (noteS S a b).2.ok := by
  have hs := h.small
  unfold noteS
  split
  · split
    · split
      · exact h
      · exact ⟨h.aok, by simp only; omega⟩
    · split
      · exact h
      · rename_i hn
        refine ⟨h.aok, ?_⟩
        simp only
        have h1 := nums_put (cn := S.cn) (j := rj a.toNat b.toNat) (x := S.cn (rj a.toNat b.toNat) + 1)
        by_cases hz : 0 < S.cn (rj a.toNat b.toNat)
        · have := h1.2 hz; omega
        · have h0 : S.cn (rj a.toNat b.toNat) = 0 := by have := hp _ (rj_lt a.toNat b.toNat); omega
          have : ¬ 10 ≤ nums S.cn + S.nn := fun hx => hn ⟨h0, hx⟩
          have := h1.1
          omega
  · exact h
theorem dropS_ok {S : WS} (h : S.ok) (a b : Int) : (dropS S a b).2.2.ok := by
  have hs := h.small
  unfold dropS
  split
  · split
    · exact h
    · split
      · rename_i h2
        refine ⟨h.aok, ?_⟩
        simp only
        have := (nums_put (cn := S.cn) (j := rj a.toNat b.toNat) (x := 0)).2 h2
        omega
      · exact h
  · exact h
theorem wipeS_ok {S : WS} (h : S.ok) : (wipeS S).ok := ⟨h.aok, by simp [wipeS, nums, one1]⟩
theorem pruneS_ok {S : WS} (h : S.ok) (m : Int) : (pruneS S m).ok := ⟨h.aok, by
  have := pruneC_nums S.cn m
  have := h.small
  simp only [pruneS]
  omega⟩
theorem stepD_ok {S : WS} (h : S.ok) (hp : ∀ j, j < 7 → 0 ≤ S.cn j) (o : OpD) (r : Nat) : (stepD S o r).ok := by
  unfold stepD
  repeat' split
  · exact linkS_ok h _ _
  · exact cutS_ok h _ _
  · exact reachS_ok h _ _
  · exact twinsS_ok h _ _
  · exact noteS_ok h hp _ _
  · exact dropS_ok h _ _
  · exact wipeS_ok h
  · exact pruneS_ok h _
  · exact h

theorem WAt.pos {w : World} {px pa ph : Nat} {B C : Nat → Nat} {S : WS} (h : WAt w px pa ph B C S) : ∀ j, j < 7 → 0 ≤ S.cn j := by
  obtain ⟨_, _, _, hok⟩ := h.hist
  exact hok.pos

theorem linkS_cn (S : WS) (a b : Int) : (linkS S a b).2.cn = S.cn := by
  unfold linkS
  repeat' split
  all_goals rfl
theorem cutS_cn (S : WS) (a b : Int) : (cutS S a b).2.cn = S.cn := by
  unfold cutS
  repeat' split
  all_goals rfl
theorem reachS_cn (S : WS) (s : Int) (r : Nat) : (reachS S s r).2.2.2.cn = S.cn := by unfold reachS; split <;> rfl
theorem twinsS_cn (S : WS) (s : Int) (r : Nat) : (twinsS S s r).2.2.2.2.cn = S.cn := by unfold twinsS; split <;> rfl
/-- One step more: the counts grow by one at most. -/
theorem stepD_good {S : WS} {N : Nat} (h : S.good N) (hp : ∀ j, j < 7 → 0 ≤ S.cn j) (o : OpD) (r : Nat) : (stepD S o r).good (N + 1) := by
  refine ⟨stepD_ok h.ok hp o r, ?_⟩
  intro j hj
  have hc := h.cap j hj
  unfold stepD
  split
  · rw [linkS_cn]; omega
  split
  · rw [cutS_cn]; omega
  split
  · rw [reachS_cn]; omega
  split
  · rw [twinsS_cn]; omega
  split
  · unfold noteS
    split
    · split
      · split <;> (simp only; omega)
      · split
        · simp only; omega
        · simp only [upd]
          split
          · rename_i e; subst e; omega
          · omega
    · simp only; omega
  split
  · unfold dropS
    split
    · split
      · simp only; omega
      · split
        · simp only [upd]
          split <;> omega
        · simp only; omega
    · simp only; omega
  split
  · simp only [wipeS]; omega
  split
  · simp only [pruneS, pruneC]
    split <;> omega
  · omega
end Go.Proofs.Qxb6500374a.W
