import Derived.Test.Qxb6500371aKp
set_option linter.unusedVariables false
set_option linter.unusedSimpArgs false
namespace Go.Proofs.Qxb6500371a.W
open Go.RowKit Go.Maps

/-! The plain law: no Go in sight. -/
def evN : Option (Bool × Int) → Int
  | none => 0
  | some (true, _) => 80
  | some (false, _) => 68
def evK : Option (Bool × Int) → Int
  | none => 0
  | some (_, k) => k

def RelL (g : GS) : List Layer → Prop
  | [] => True
  | .cached _ c :: r => r = [] ∧ g.kind 0 = 2 ∧ g.c = c
  | .limited _ c :: r => r = [] ∧ g.kind 0 = 3 ∧ g.c = c
  | .logged _ l :: r => g.kind r.length = 1 ∧ g.puts r.length = l.puts ∧ g.dels r.length = l.dels ∧ g.ev r.length = evN l.last ∧ g.evk r.length = evK l.last ∧ RelL g r

def baseOf : List Layer → Option CS
  | [] => none
  | .cached _ c :: _ => some c
  | .limited _ c :: _ => some c
  | .logged _ _ :: r => baseOf r
def limOf : List Layer → Bool
  | [] => false
  | .cached _ _ :: _ => false
  | .limited _ _ :: _ => true
  | .logged _ _ :: r => limOf r
def setBase : List Layer → CS → List Layer
  | [], _ => []
  | .cached p _ :: r, c => .cached p c :: r
  | .limited p _ :: r, c => .limited p c :: r
  | .logged p l :: r, c => .logged p l :: setBase r c

/-- g and g' say the same of the places that f holds. -/
def Agree (f : Nat → Prop) (g g' : GS) : Prop := ∀ i, f i → g'.kind i = g.kind i ∧ g'.puts i = g.puts i ∧ g'.dels i = g.dels i ∧ g'.ev i = g.ev i ∧ g'.evk i = g.evk i

theorem RelL.congr {g g' : GS} : ∀ {ls : List Layer}, RelL g ls → Agree (· < ls.length) g g' → g'.c = g.c → RelL g' ls
  | [], _, _, _ => trivial
  | .cached p c :: r, h, ha, hc => by
    obtain ⟨rfl, h1, h2⟩ := h
    exact ⟨rfl, (ha 0 (by simp)).1.trans h1, hc.trans h2⟩
  | .limited p c :: r, h, ha, hc => by
    obtain ⟨rfl, h1, h2⟩ := h
    exact ⟨rfl, (ha 0 (by simp)).1.trans h1, hc.trans h2⟩
  | .logged p l :: r, h, ha, hc => by
    obtain ⟨h1, h2, h3, h4, h5, h6⟩ := h
    obtain ⟨a1, a2, a3, a4, a5⟩ := ha r.length (by simp)
    exact ⟨a1.trans h1, a2.trans h2, a3.trans h3, a4.trans h4, a5.trans h5, RelL.congr h6 (fun i hi => ha i (by simp; omega)) hc⟩

theorem RelL.sub {g : GS} : ∀ {a b : List Layer}, RelL g (a ++ b) → RelL g b
  | [], b, h => h
  | .cached p c :: a, b, h => by
    obtain ⟨h0, _⟩ := h
    obtain ⟨rfl, rfl⟩ := List.append_eq_nil_iff.1 h0
    trivial
  | .limited p c :: a, b, h => by
    obtain ⟨h0, _⟩ := h
    obtain ⟨rfl, rfl⟩ := List.append_eq_nil_iff.1 h0
    trivial
  | .logged p l :: a, b, h => RelL.sub h.2.2.2.2.2

theorem RelL.repl {g g' : GS} {b b' : List Layer} (hl : b'.length = b.length) (hb : RelL g' b') (ha : Agree (b.length ≤ ·) g g') (hc : b = [] → g'.c = g.c) : ∀ {a : List Layer}, RelL g (a ++ b) → RelL g' (a ++ b')
  | [], h => hb
  | .cached p c :: a, h => by
    obtain ⟨h0, h1, h2⟩ := h
    obtain ⟨rfl, rfl⟩ := List.append_eq_nil_iff.1 h0
    have : b' = [] := List.length_eq_zero_iff.1 hl
    subst this
    exact ⟨rfl, (ha 0 (by simp)).1.trans h1, (hc rfl).trans h2⟩
  | .limited p c :: a, h => by
    obtain ⟨h0, h1, h2⟩ := h
    obtain ⟨rfl, rfl⟩ := List.append_eq_nil_iff.1 h0
    have : b' = [] := List.length_eq_zero_iff.1 hl
    subst this
    exact ⟨rfl, (ha 0 (by simp)).1.trans h1, (hc rfl).trans h2⟩
  | .logged p l :: a, h => by
    obtain ⟨h1, h2, h3, h4, h5, h6⟩ := h
    have e : (a ++ b').length = (a ++ b).length := by simp [hl]
    obtain ⟨a1, a2, a3, a4, a5⟩ := ha (a ++ b).length (by simp)
    show g'.kind (a ++ b').length = 1 ∧ g'.puts (a ++ b').length = l.puts ∧ g'.dels (a ++ b').length = l.dels ∧ g'.ev (a ++ b').length = evN l.last ∧ g'.evk (a ++ b').length = evK l.last ∧ RelL g' (a ++ b')
    rw [e]
    exact ⟨a1.trans h1, a2.trans h2, a3.trans h3, a4.trans h4, a5.trans h5, RelL.repl hl hb ha hc h6⟩

theorem RelL.any {g : GS} : ∀ {ls : List Layer}, RelL g ls → anyS g ls.length = (baseOf ls).isSome
  | [], _ => rfl
  | .cached p c :: r, h => by
    obtain ⟨rfl, h1, h2⟩ := h
    simp [anyS, baseOf, h1]
  | .limited p c :: r, h => by
    obtain ⟨rfl, h1, h2⟩ := h
    simp [anyS, baseOf, h1]
  | .logged p l :: r, h => by
    obtain ⟨h1, _, _, _, _, h6⟩ := h
    have := RelL.any h6
    simp [anyS, baseOf, h1, this]

theorem RelL.base {g : GS} {c : CS} : ∀ {ls : List Layer}, RelL g ls → baseOf ls = some c → g.c = c
  | [], _, h => by cases h
  | .cached p c' :: r, h, hb => by cases hb; exact h.2.2
  | .limited p c' :: r, h, hb => by cases hb; exact h.2.2
  | .logged p l :: r, h, hb => RelL.base h.2.2.2.2.2 hb

theorem RelL.lim {g : GS} : ∀ {ls : List Layer}, RelL g ls → (limOf ls = true ↔ (0 < ls.length ∧ g.kind 0 = 3))
  | [], _ => by simp [limOf]
  | .cached p c :: r, h => by
    obtain ⟨rfl, h1, h2⟩ := h
    simp [limOf, h1]
  | .limited p c :: r, h => by
    obtain ⟨rfl, h1, h2⟩ := h
    simp [limOf, h1]
  | .logged p l :: r, h => by
    obtain ⟨h1, _, _, _, _, h6⟩ := h
    have ih := RelL.lim h6
    cases r with
    | nil => simp [limOf] at *; simp [h1]
    | cons y s => simpa [limOf] using ih

theorem RelL.setBase {g : GS} (c : CS) : ∀ {ls : List Layer}, RelL g ls → RelL { g with c := c } (setBase ls c)
  | [], _ => trivial
  | .cached p c' :: r, h => ⟨h.1, h.2.1, rfl⟩
  | .limited p c' :: r, h => ⟨h.1, h.2.1, rfl⟩
  | .logged p l :: r, h => by
    obtain ⟨h1, h2, h3, h4, h5, h6⟩ := h
    have e : (W.setBase r c).length = r.length := by
      clear h1 h2 h3 h4 h5 h6
      induction r with
      | nil => rfl
      | cons x r ih => cases x <;> simp [W.setBase, ih]
    show _ ∧ _
    rw [e]
    exact ⟨h1, h2, h3, h4, h5, RelL.setBase c h6⟩

theorem setBase_len (c : CS) : ∀ ls : List Layer, (setBase ls c).length = ls.length
  | [] => rfl
  | .cached p c' :: r => rfl
  | .limited p c' :: r => rfl
  | .logged p l :: r => by simp [setBase, setBase_len c r]
theorem setBase_base (c : CS) : ∀ ls : List Layer, (baseOf ls).isSome = true → baseOf (setBase ls c) = some c
  | [], h => by cases h
  | .cached p c' :: r, h => rfl
  | .limited p c' :: r, h => rfl
  | .logged p l :: r, h => setBase_base c r h
theorem setBase_none (c : CS) : ∀ ls : List Layer, baseOf ls = none → setBase ls c = ls
  | [], h => rfl
  | .cached p c' :: r, h => by cases h
  | .limited p c' :: r, h => by cases h
  | .logged p l :: r, h => by rw [setBase, setBase_none c r h]

/-- Get, by the base. -/
theorem getL_eq (m : MS) (k : Int) : ∀ ls : List Layer, getL ls m k = match baseOf ls with
    | none => ((rowR m k).2.1, (rowR m k).2.2, ls)
    | some c => ((getC c m k).1, (getC c m k).2.1, setBase ls (getC c m k).2.2)
  | [] => rfl
  | .cached p c :: r => rfl
  | .limited p c :: r => rfl
  | .logged p l :: r => by
    have ih := getL_eq m k r
    simp only [getL, baseOf, setBase]
    rw [ih]
    cases baseOf r <;> rfl

def turnLs (ev : Bool) (k : Int) : List Layer → List Layer
  | [] => []
  | .cached p c :: r => .cached p (forgetC c k) :: r
  | .limited p c :: r => .limited p (forgetC c k) :: r
  | .logged p l :: r => .logged p (if ev then ⟨wrap64 (l.puts + 1), l.dels, some (true, k)⟩ else ⟨l.puts, wrap64 (l.dels + 1), some (false, k)⟩) :: turnLs ev k r

theorem turnLs_len (ev : Bool) (k : Int) : ∀ ls : List Layer, (turnLs ev k ls).length = ls.length
  | [] => rfl
  | .cached p c' :: r => rfl
  | .limited p c' :: r => rfl
  | .logged p l :: r => by simp [turnLs, turnLs_len ev k r]

def putE (ls : List Layer) (m : MS) (k : Int) : Int := if inB k then (if limOf ls = true ∧ m.has k.toNat = false ∧ 2 ≤ m.cnt then 3 else 0) else 1

theorem putM_eq (m : MS) (k v : Int) : putM m k v = if inB k then (0, (putM m k v).2) else (1, m) := by
  unfold putM
  split <;> rfl

theorem putL_eq (m : MS) (k v : Int) : ∀ ls : List Layer, putL ls m k v = if putE ls m k = 0 then (0, turnLs true k ls, (putM m k v).2) else (putE ls m k, ls, m)
  | [] => by
    unfold putE
    rw [putL, putM_eq]
    by_cases hi : inB k = true
    · simp [hi, limOf, turnLs]
    · simp [hi, turnLs]
  | .cached p c :: r => by
    unfold putE
    rw [putL, putC, putM_eq]
    by_cases hi : inB k = true
    · simp [hi, limOf, turnLs]
    · simp [hi, turnLs]
  | .limited p c :: r => by
    unfold putE
    rw [putL, putLim, putC, putM_eq]
    by_cases hi : inB k = true
    · have hr : (rowR m k).2.2 = if m.has k.toNat then 0 else 2 := by unfold rowR; rw [if_pos hi]; split <;> rfl
      cases hh : m.has k.toNat with
      | true => simp [hi, limOf, turnLs, hr, hh]
      | false =>
        by_cases hc : 2 ≤ m.cnt
        · simp [hi, limOf, turnLs, hr, hh, hc]
        · simp [hi, limOf, turnLs, hr, hh, hc]
    · have hr : (rowR m k).2.2 = 1 := by unfold rowR; rw [if_neg hi]
      simp [hi, turnLs, hr]
  | .logged p l :: r => by
    have ih := putL_eq m k v r
    have e : putE (.logged p l :: r) m k = putE r m k := rfl
    rw [putL, ih, e]
    by_cases h0 : putE r m k = 0
    · simp [h0, turnLs]
    · simp [h0]

theorem delL_eq (m : MS) (k : Int) : ∀ ls : List Layer, delL ls m k = if (delM m k).1 = 0 then (0, turnLs false k ls, (delM m k).2) else ((delM m k).1, ls, m)
  | [] => by
    have hm : (delM m k).1 ≠ 0 → (delM m k).2 = m := by unfold delM; intro h; split at h <;> (try split at h) <;> simp_all
    rw [delL]
    by_cases h0 : (delM m k).1 = 0
    · simp [h0, turnLs]
    · simp [h0, hm h0]
  | .cached p c :: r => by
    have hm : (delM m k).1 ≠ 0 → (delM m k).2 = m := by unfold delM; intro h; split at h <;> (try split at h) <;> simp_all
    rw [delL, delC]
    by_cases h0 : (delM m k).1 = 0
    · simp [h0, turnLs]
    · simp [h0, hm h0]
  | .limited p c :: r => by
    have hm : (delM m k).1 ≠ 0 → (delM m k).2 = m := by unfold delM; intro h; split at h <;> (try split at h) <;> simp_all
    rw [delL, delC]
    by_cases h0 : (delM m k).1 = 0
    · simp [h0, turnLs]
    · simp [h0, hm h0]
  | .logged p l :: r => by
    have ih := delL_eq m k r
    rw [delL, ih]
    by_cases h0 : (delM m k).1 = 0
    · simp [h0, turnLs]
    · simp [h0]

theorem turnG_kind (g : GS) (ev k : Int) : ∀ j, (turnG g ev k j).kind = g.kind
  | 0 => rfl
  | j + 1 => by
    have := turnG_kind g ev k j
    rw [turnG, turn1]
    split
    · split <;> exact this
    · split <;> exact this
theorem turnG_m (g : GS) (ev k : Int) : ∀ j, (turnG g ev k j).m = g.m
  | 0 => rfl
  | j + 1 => by
    have := turnG_m g ev k j
    rw [turnG, turn1]
    split
    · split <;> exact this
    · split <;> exact this
theorem turnG_rest (g : GS) (ev k : Int) : ∀ j, (turnG g ev k j).n = g.n ∧ (turnG g ev k j).held = g.held ∧ (turnG g ev k j).thn = g.thn
  | 0 => ⟨rfl, rfl, rfl⟩
  | j + 1 => by
    have := turnG_rest g ev k j
    rw [turnG, turn1]
    split
    · split <;> exact this
    · split <;> exact this
theorem turnG_agree (g : GS) (ev k : Int) : ∀ j, Agree (j ≤ ·) g (turnG g ev k j)
  | 0 => fun i _ => ⟨rfl, rfl, rfl, rfl, rfl⟩
  | j + 1 => by
    intro i hi
    obtain ⟨h1, h2, h3, h4, h5⟩ := turnG_agree g ev k j i (by omega)
    rw [turnG, turn1]
    have hne : i ≠ j := by omega
    split
    · split <;> exact ⟨h1, h2, h3, h4, h5⟩
    · split <;> simp [upd, hne, h1, h2, h3, h4, h5]

theorem RelL.turn {g : GS} (ev : Bool) (k : Int) : ∀ {ls : List Layer}, RelL g ls → RelL (turnG g (if ev then 80 else 68) k ls.length) (turnLs ev k ls)
  | [], _ => trivial
  | .cached p c :: r, h => by
    obtain ⟨rfl, h1, h2⟩ := h
    subst h2
    show RelL (turn1 g _ k 0) _
    rw [turn1, if_pos (by rw [h1]; decide)]
    by_cases hk : g.c.key = k
    · rw [if_pos hk]
      exact ⟨rfl, h1, by rw [forgetC, if_pos hk.symm]⟩
    · rw [if_neg hk]
      exact ⟨rfl, h1, by rw [forgetC, if_neg (fun e => hk e.symm)]⟩
  | .limited p c :: r, h => by
    obtain ⟨rfl, h1, h2⟩ := h
    subst h2
    show RelL (turn1 g _ k 0) _
    rw [turn1, if_pos (by rw [h1]; decide)]
    by_cases hk : g.c.key = k
    · rw [if_pos hk]
      exact ⟨rfl, h1, by rw [forgetC, if_pos hk.symm]⟩
    · rw [if_neg hk]
      exact ⟨rfl, h1, by rw [forgetC, if_neg (fun e => hk e.symm)]⟩
  | .logged p l :: r, h => by
    obtain ⟨h1, h2, h3, h4, h5, h6⟩ := h
    have ih := RelL.turn ev k h6
    have hag := turnG_agree g (if ev then 80 else 68) k r.length r.length (Nat.le_refl _)
    show RelL (turn1 (turnG g (if ev then 80 else 68) k r.length) (if ev then 80 else 68) k r.length) _
    generalize turnG g (if ev then 80 else 68) k r.length = g1 at ih hag
    obtain ⟨a1, a2, a3, a4, a5⟩ := hag
    rw [turn1, if_neg (by rw [a1, h1]; simp)]
    cases ev with
    | true =>
      rw [if_pos (by rfl)]
      show _ ∧ _
      rw [turnLs_len]
      refine ⟨a1.trans h1, ?_, ?_, ?_, ?_, RelL.congr ih (fun i hi => ?_) rfl⟩
      · simp [upd, a2, h2]
      · simp [a3, h3]
      · simp [upd, evN]
      · simp [upd, evK]
      · rw [turnLs_len] at hi
        have hne : i ≠ r.length := by omega
        simp [upd, hne]
    | false =>
      rw [if_neg (by decide)]
      show _ ∧ _
      rw [turnLs_len]
      refine ⟨a1.trans h1, ?_, ?_, ?_, ?_, RelL.congr ih (fun i hi => ?_) rfl⟩
      · simp [a2, h2]
      · simp [upd, a3, h3]
      · simp [upd, evN]
      · simp [upd, evK]
      · rw [turnLs_len] at hi
        have hne : i ≠ r.length := by omega
        simp [upd, hne]

theorem turnG_c {g : GS} (ev k : Int) : ∀ {ls : List Layer}, RelL g ls → baseOf ls = none → (turnG g ev k ls.length).c = g.c
  | [], _, _ => rfl
  | .cached p c :: r, h, hb => by cases hb
  | .limited p c :: r, h, hb => by cases hb
  | .logged p l :: r, h, hb => by
    have ih := turnG_c (g := g) ev k h.2.2.2.2.2 hb
    have hk := turnG_kind g ev k r.length
    show (turn1 (turnG g ev k r.length) ev k r.length).c = _
    rw [turn1, if_neg (by rw [hk, h.1]; simp)]
    split <;> exact ih
end Go.Proofs.Qxb6500371a.W
