import Derived.Test.Qxb6500371aTell2
set_option linter.unusedVariables false
set_option linter.unusedSimpArgs false
namespace Go.Proofs.Qxb6500371a.W
open Go.RowKit Go.Maps

/-- A layer's kind and place. -/
def Layer.sh : Layer → Nat × Nat
  | .cached p _ => (0, p)
  | .limited p _ => (1, p)
  | .logged p _ => (2, p)

theorem blk_sh (x : Layer) : x.blk = x.sh.2 := by cases x <;> rfl

theorem bl_sh {pm mp : Nat} {a b : List Layer} (h : a.map Layer.sh = b.map Layer.sh) : bl pm mp a = bl pm mp b := by
  have e : ∀ l : List Layer, l.map Layer.blk = (l.map Layer.sh).map (·.2) := by intro l; simp [blk_sh]
  simp only [bl, e, h]

theorem top_sh {pm : Nat} {a b : List Layer} (h : a.map Layer.sh = b.map Layer.sh) : topV pm a = topV pm b := by
  cases a with
  | nil => cases b with
    | nil => rfl
    | cons => simp at h
  | cons x r => cases b with
    | nil => simp at h
    | cons y s =>
      simp only [List.map_cons, List.cons.injEq] at h
      obtain ⟨h, _⟩ := h
      cases x <;> cases y <;> simp [Layer.sh] at h <;> subst h <;> rfl

theorem putL_sh (m : MS) (k v : Int) : ∀ ls : List Layer, ((putL ls m k v).2.1).map Layer.sh = ls.map Layer.sh
  | [] => rfl
  | .cached p c :: r => rfl
  | .limited p c :: r => rfl
  | .logged p l :: r => by
    have := putL_sh m k v r
    simp only [putL]
    split <;> simp [Layer.sh, this]
theorem delL_sh (m : MS) (k : Int) : ∀ ls : List Layer, ((delL ls m k).2.1).map Layer.sh = ls.map Layer.sh
  | [] => rfl
  | .cached p c :: r => rfl
  | .limited p c :: r => rfl
  | .logged p l :: r => by
    have := delL_sh m k r
    simp only [delL]
    split <;> simp [Layer.sh, this]
theorem getL_sh (m : MS) (k : Int) : ∀ ls : List Layer, ((getL ls m k).2.2).map Layer.sh = ls.map Layer.sh
  | [] => rfl
  | .cached p c :: r => rfl
  | .limited p c :: r => rfl
  | .logged p l :: r => by
    have := getL_sh m k r
    simp [getL, Layer.sh, this]
theorem clearL_sh : ∀ ls : List Layer, (clearL ls).map Layer.sh = ls.map Layer.sh
  | [] => rfl
  | .cached p c :: r => rfl
  | .limited p c :: r => rfl
  | .logged p l :: r => by
    have := clearL_sh r
    simp [clearL, Layer.sh, this]

/-- The real chain, plainly; held: how many layers stood, the tally then. -/
structure RS where
  m : MS
  ls : List Layer
  held : Option (Nat × Int × Int)

def subL (ls : List Layer) (h : Nat) : List Layer := ls.drop (ls.length - h)

theorem sub_sh {a b : List Layer} (h : a.map Layer.sh = b.map Layer.sh) (n : Nat) : (subL a n).map Layer.sh = (subL b n).map Layer.sh := by
  have hl : a.length = b.length := by simpa using congrArg List.length h
  simp only [subL, List.map_drop, h, hl]

def fnV (name : String) (pm : Nat) (S : RS) : Value := match S.held with
  | none => .nilFunc
  | some (h, _, _) => .func (.method name) #[topV pm (subL S.ls h)] #[]
def atV (S : RS) : Value := .int .i64 (match S.held with
  | none => -1
  | some (h, _, _) => h)
def logOf : List Layer → Option Nat
  | .logged p _ :: _ => some p
  | _ => none
def logV (S : RS) : Value := match S.held with
  | none => .pointer none
  | some (h, _, _) => match logOf (subL S.ls h) with
    | some p => pt p
    | none => .pointer none
def thenV (S : RS) : Value := match S.held with
  | none => .nilFunc
  | some (h, a, b) => match logOf (subL S.ls h) with
    | some p => .func (.func 63) #[.agg #[.int .i64 a, .int .i64 b]] #[]
    | none => .nilFunc

theorem logOf_sh {a b : List Layer} (h : a.map Layer.sh = b.map Layer.sh) : logOf a = logOf b := by
  cases a with
  | nil => cases b with
    | nil => rfl
    | cons => simp at h
  | cons x r => cases b with
    | nil => simp at h
    | cons y s =>
      simp only [List.map_cons, List.cons.injEq] at h
      obtain ⟨h, _⟩ := h
      cases x <;> cases y <;> simp [Layer.sh] at h <;> subst h <;> rfl

def chainCells (pm : Nat) (S : RS) : Array Value := #[topV pm S.ls, .int .i64 S.ls.length, fnV "Get" pm S, fnV "Put" pm S, atV S, logV S, thenV S]

theorem cells_sh {pm : Nat} {S S' : RS} (h : S.ls.map Layer.sh = S'.ls.map Layer.sh) (hh : S.held = S'.held) : chainCells pm S = chainCells pm S' := by
  have hl : S.ls.length = S'.ls.length := by simpa using congrArg List.length h
  have e1 : ∀ n, topV pm (subL S.ls n) = topV pm (subL S'.ls n) := fun n => top_sh (sub_sh h n)
  have e2 : ∀ n, logOf (subL S.ls n) = logOf (subL S'.ls n) := fun n => logOf_sh (sub_sh h n)
  simp only [chainCells, fnV, atV, logV, thenV, top_sh h, hl, hh, e1, e2]

structure ChainAt (w : World) (px pm mp : Nat) (S : RS) : Prop where
  row : w.heap[px]? = some (.cells (chainCells pm S) 56 (0, 0))
  apart : px ∉ bl pm mp S.ls
  st : StackAt w pm mp S.m S.ls

structure RS.ok (S : RS) : Prop where
  len : S.ls.length ≤ 4
  lay : ∀ x ∈ S.ls, x.ok
  mok : S.m.ok
  hld : ∀ h a b, S.held = some (h, a, b) → h ≤ S.ls.length

theorem StackAt.sub {w : World} {pm mp : Nat} {m : MS} : ∀ {a b : List Layer}, StackAt w pm mp m (a ++ b) → StackAt w pm mp m b
  | [], b, h => h
  | .cached p c :: a, b, h => by
    obtain ⟨h0, _, _, _, h4⟩ := h
    obtain ⟨rfl, rfl⟩ := List.append_eq_nil_iff.1 h0
    exact h4
  | .limited p c :: a, b, h => by
    obtain ⟨h0, _, _, _, h4⟩ := h
    obtain ⟨rfl, rfl⟩ := List.append_eq_nil_iff.1 h0
    exact h4
  | .logged p l :: a, b, h => StackAt.sub h.2.2

theorem bl_app {pm mp : Nat} {a b : List Layer} : ∀ x ∈ bl pm mp b, x ∈ bl pm mp (a ++ b) := by
  intro x hx
  simp only [bl, List.map_append, List.append_assoc, List.mem_append] at hx ⊢
  exact Or.inr hx

theorem StackAt.repl {w w' : World} {pm mp : Nat} {m m' : MS} {b b' : List Layer} (hc : Chg (bl pm mp b) w w') (hs : b'.map Layer.sh = b.map Layer.sh) (hb : StackAt w' pm mp m' b') :
    ∀ {a : List Layer}, StackAt w pm mp m (a ++ b) → StackAt w' pm mp m' (a ++ b')
  | [], h => hb
  | .cached p c :: a, h => by
    obtain ⟨h0, h1, h2, h3, h4⟩ := h
    obtain ⟨rfl, rfl⟩ := List.append_eq_nil_iff.1 h0
    have : b' = [] := by simpa using hs
    subst this
    exact ⟨rfl, h1, h2, h3.chg hc (by simp [bl, h1, h2]), hb⟩
  | .limited p c :: a, h => by
    obtain ⟨h0, h1, h2, h3, h4⟩ := h
    obtain ⟨rfl, rfl⟩ := List.append_eq_nil_iff.1 h0
    have : b' = [] := by simpa using hs
    subst this
    exact ⟨rfl, h1, h2, h3.chg hc (by simp [bl, h1, h2]), hb⟩
  | .logged p l :: a, h => by
    obtain ⟨h1, h2, h3⟩ := h
    have e : (a ++ b').map Layer.sh = (a ++ b).map Layer.sh := by simp [hs]
    refine ⟨?_, ?_, StackAt.repl hc hs hb h3⟩
    · show p ∉ bl pm mp (a ++ b')
      rw [bl_sh e]; exact h1
    · show LogAt w' p (topV pm (a ++ b')) l
      rw [top_sh e]
      exact h2.chg hc (fun hx => h1 (bl_app p hx))

/-- The layers ls with the innermost h of them laid anew. -/
def replL (ls : List Layer) (h : Nat) (b : List Layer) : List Layer := ls.take (ls.length - h) ++ b

theorem repl_sh {ls b : List Layer} {h : Nat} (hb : b.map Layer.sh = (subL ls h).map Layer.sh) : (replL ls h b).map Layer.sh = ls.map Layer.sh := by
  rw [replL, List.map_append, hb, ← List.map_append, subL, List.take_append_drop]

theorem ChainAt.chg {w w' : World} {bs : List Nat} {px pm mp : Nat} {S : RS} (h : ChainAt w px pm mp S) (hc : Chg bs w w') (hn : ∀ x ∈ px :: bl pm mp S.ls, x ∉ bs) : ChainAt w' px pm mp S :=
  ⟨hc.keep h.row (hn _ (by simp)), h.apart, StackAt.chg hc h.st fun x hx => hn x (by simp [hx])⟩

theorem ChainAt.lt {w : World} {px pm mp : Nat} {S : RS} (h : ChainAt w px pm mp S) : ∀ x ∈ px :: bl pm mp S.ls, x < w.heap.size := by
  intro x hx
  rcases List.mem_cons.1 hx with rfl | hx
  · exact (Array.getElem?_eq_some_iff.1 h.row).1
  · exact h.st.lt x hx

/-- What a step on the layers (at the innermost h of them) leaves. -/
theorem ChainAt.step {w w' : World} {px pm mp : Nat} {S : RS} (h : ChainAt w px pm mp S) (n : Nat) {b : List Layer} {m' : MS} (hs : b.map Layer.sh = (subL S.ls n).map Layer.sh) (hb : StackAt w' pm mp m' b) (hc : Chg (bl pm mp (subL S.ls n)) w w') :
    ChainAt w' px pm mp ⟨m', replL S.ls n b, S.held⟩ ∧ Chg (px :: bl pm mp S.ls) w w' := by
  have hsub : ∀ x ∈ bl pm mp (subL S.ls n), x ∈ bl pm mp S.ls := by
    intro x hx
    have := bl_app (a := S.ls.take (S.ls.length - n)) x hx
    rwa [subL, List.take_append_drop] at this
  have e := repl_sh (h := n) hs
  refine ⟨⟨?_, ?_, ?_⟩, hc.mono fun x hx => by simp [hsub x hx]⟩
  · rw [hc.keep h.row fun hx => h.apart (hsub _ hx)]
    rw [cells_sh (S := ⟨m', replL S.ls n b, S.held⟩) (S' := S) e rfl]
  · show px ∉ bl pm mp (replL S.ls n b)
    rw [bl_sh e]; exact h.apart
  · have hh := h.st
    rw [← List.take_append_drop (S.ls.length - n) S.ls] at hh
    exact StackAt.repl hc hs hb hh

theorem subL_all (ls : List Layer) : subL ls ls.length = ls := by simp [subL]
theorem replL_all (ls b : List Layer) : replL ls ls.length b = b := by simp [replL]
end Go.Proofs.Qxb6500371a.W
