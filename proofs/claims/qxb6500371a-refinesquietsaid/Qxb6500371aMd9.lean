import Derived.Test.Qxb6500371aMd7
import Derived.Test.Qxb6500371aMd8
set_option linter.unusedVariables false
set_option linter.unusedSimpArgs false
namespace Go.Proofs.Qxb6500371a.W
open Go.RowKit Go.Maps

def b0 (g : GS) : Nat := if 0 < g.n ∧ g.kind 0 ≠ 1 then 1 else 0
def baseI (g : GS) : Int := if 0 < g.n ∧ g.kind 0 ≠ 1 then g.kind 0 else 0

theorem GM.uniq {b : Nat} {base : Int} {g : GS} (h : GM b base g) : b = b0 g ∧ base = baseI g := by
  unfold b0 baseI
  rcases h.bb with ⟨rfl, rfl, _⟩ | ⟨rfl, h1, h2, h3⟩
  · have : ¬ (0 < g.n ∧ g.kind 0 ≠ 1) := fun z => z.2 (h.logs 0 (by omega) z.1)
    rw [if_neg this, if_neg this]
    exact ⟨rfl, rfl⟩
  · have : 0 < g.n ∧ g.kind 0 ≠ 1 := ⟨h1, by omega⟩
    rw [if_pos this, if_pos this]
    exact ⟨rfl, h2.symm⟩

theorem RelL.kinds {g : GS} : ∀ {ls : List Layer}, RelL g ls → (baseOf ls = none ∧ ∀ i, i < ls.length → g.kind i = 1) ∨ ((baseOf ls).isSome = true ∧ 0 < ls.length ∧ (g.kind 0 = 2 ∨ g.kind 0 = 3) ∧ ∀ i, 1 ≤ i → i < ls.length → g.kind i = 1)
  | [], _ => Or.inl ⟨rfl, fun i hi => by simp at hi⟩
  | .cached p c :: r, h => by
    obtain ⟨rfl, h1, _⟩ := h
    exact Or.inr ⟨rfl, by simp, Or.inl h1, fun i h1 h2 => by simp at h2; omega⟩
  | .limited p c :: r, h => by
    obtain ⟨rfl, h1, _⟩ := h
    exact Or.inr ⟨rfl, by simp, Or.inr h1, fun i h1 h2 => by simp at h2; omega⟩
  | .logged p l :: r, h => by
    rcases RelL.kinds h.2.2.2.2.2 with ⟨h1, h2⟩ | ⟨h1, h2, h3, h4⟩
    · refine Or.inl ⟨h1, fun i hi => ?_⟩
      simp only [List.length_cons] at hi
      by_cases e : i = r.length
      · rw [e]; exact h.1
      · exact h2 i (by omega)
    · refine Or.inr ⟨h1, by simp, h3, fun i hi hn => ?_⟩
      simp only [List.length_cons] at hn
      by_cases e : i = r.length
      · rw [e]; exact h.1
      · exact h4 i hi (by omega)

theorem gm_of {S : RS} {g : GS} (h : Rel S g) : GM (b0 g) (baseI g) g := by
  have hl := h.ok.len
  have : ∃ b base, GM b base g := by
    rcases RelL.kinds h.lay with ⟨h1, h2⟩ | ⟨h1, h2, h3, h4⟩
    · exact ⟨0, 0, by rw [h.n]; exact hl, Or.inl ⟨rfl, rfl, h.noBase h1⟩, fun i _ hi => h2 i (by rw [← h.n]; exact hi)⟩
    · exact ⟨1, g.kind 0, by rw [h.n]; exact hl, Or.inr ⟨rfl, by rw [h.n]; exact h2, rfl, h3⟩, fun i h1 hi => h4 i h1 (by rw [← h.n]; exact hi)⟩
  obtain ⟨b, base, hm⟩ := this
  obtain ⟨rfl, rfl⟩ := hm.uniq
  exact hm

theorem heldIn_of {S : RS} {g : GS} (h : Rel S g) : heldIn g := by
  cases hh : S.held with
  | none => exact Or.inl (h.heldN hh).1
  | some z =>
    obtain ⟨q, a, b⟩ := z
    exact Or.inr ⟨q, by rw [h.n]; exact h.ok.hld q a b hh, (h.heldS q a b hh).1⟩

theorem gotG_kind (g : GS) (n : Nat) (k : Int) : (gotG g n k).2.2.n = g.n ∧ (gotG g n k).2.2.kind = g.kind := by
  unfold gotG
  split
  · exact ⟨rfl, rfl⟩
  · split
    · simp only
      split <;> exact ⟨rfl, rfl⟩
    · exact ⟨rfl, rfl⟩
theorem laidG_kind (g : GS) (n : Nat) (k v : Int) : (laidG g n k v).2.n = g.n ∧ (laidG g n k v).2.kind = g.kind := by
  unfold laidG
  split
  · split
    · exact ⟨rfl, rfl⟩
    · exact ⟨turnG_n _ _ _ _, turnG_kind _ _ _ _⟩
  · exact ⟨rfl, rfl⟩
theorem delG_kind (g : GS) (k : Int) : (delG g k).n = g.n ∧ (delG g k).kind = g.kind := by
  unfold delG
  split
  · exact ⟨turnG_n _ _ _ _, turnG_kind _ _ _ _⟩
  · exact ⟨rfl, rfl⟩

/-- A model's chain as it lies, its base told by the ghost. -/
def MI (w : World) (pd : Nat) (g : GS) (lp : Option Addr) (cap : Nat) : Prop := MdAt w pd (b0 g) (baseI g) g lp cap

structure XStp (pd : Nat) (lp : Option Addr) (g' : GS) (w w' : World) : Prop where
  ex : ∃ lp' cap', MI w' pd g' lp' cap' ∧ ∀ x ∈ ownB lp', x ∈ ownB lp ∨ w.heap.size ≤ x
  chg : Chg (pd :: ownB lp) w w'

theorem NStp.x {pd : Nat} {lp : Option Addr} {g' : GS} {w w' : World} (h : NStp pd lp g' w w') : XStp pd lp g' w w' := by
  obtain ⟨⟨b', base', lp', cap', h1, h2, h3⟩, hc⟩ := h
  obtain ⟨rfl, rfl⟩ := h2.uniq
  exact ⟨⟨lp', cap', h1, h3⟩, hc⟩

theorem MStp.x {pd cap : Nat} {lp : Option Addr} {g g' : GS} {w w' : World} (h : MStp pd (b0 g) (baseI g) lp cap g' w w') (hk : g'.n = g.n ∧ g'.kind = g.kind) : XStp pd lp g' w w' := by
  have e1 : b0 g = b0 g' := by unfold b0; rw [hk.1, hk.2]
  have e2 : baseI g = baseI g' := by unfold baseI; rw [hk.1, hk.2]
  have h1 := h.at_
  rw [e1, e2] at h1
  exact ⟨⟨lp, cap, h1, fun x hx => Or.inl hx⟩, h.chg⟩

theorem XStp.same {pd cap : Nat} {lp : Option Addr} {g : GS} {w w' : World} (h : MI w pd g lp cap) (hc : Chg [] w w') : XStp pd lp g w w' :=
  ⟨⟨lp, cap, MdAt.chg h hc (by simp), fun x hx => Or.inl hx⟩, hc.any⟩

theorem mi_lt {w : World} {pd cap : Nat} {g : GS} {lp : Option Addr} (h : MI w pd g lp cap) : ∀ x ∈ pd :: ownB lp, x < w.heap.size := by
  intro x hx
  rcases List.mem_cons.1 hx with rfl | hx
  · exact (Array.getElem?_eq_some_iff.1 h.row).1
  · exact h.lt x hx

theorem domW_keep {w w2 : World} {o : OpD} {pd cap : Nat} {lp : Option Addr} {g : GS} (h : MI w pd g lp cap) (hc : Chg (pd :: ownB lp) (doW w o) w2) :
    w2.heap[w.heap.size + 1 + 1]? = some (.cells (ansCells 0 0 0 ⟨#[]⟩) 30 (0, 0)) ∧ w2.heap[w.heap.size + 1]? = some (.cells (ansCells 0 0 0 ⟨#[]⟩) 30 (0, 0)) := by
  have hlt := mi_lt h
  exact ⟨hc.keep (doW_a w o) (fun hx => by have := hlt _ hx; omega), hc.keep (doW_r w o) (fun hx => by have := hlt _ hx; omega)⟩

theorem XStp.fin {w w2 w3 : World} {o : OpD} {pd cap : Nat} {lp : Option Addr} {g g' : GS} (h : MI w pd g lp cap) (hs : XStp pd lp g' (doW w o) w2) (hc : Chg [w.heap.size + 1 + 1, w.heap.size + 1] w2 w3) : XStp pd lp g' w w3 := by
  have hlt := mi_lt h
  have hpd := hlt pd (by simp)
  obtain ⟨⟨lp', cap', h1, h2⟩, hch⟩ := hs
  have hbl : ∀ x ∈ ownB lp', x < w.heap.size ∨ w.heap.size + 3 ≤ x := by
    intro x hx
    rcases h2 x hx with e | e
    · exact Or.inl (hlt x (by simp [e]))
    · rw [doW_size] at e; exact Or.inr e
  refine ⟨⟨lp', cap', MdAt.chg h1 hc ?_, ?_⟩, ?_⟩
  · intro x hx hm
    simp only [List.mem_cons, List.not_mem_nil, or_false] at hm
    rcases List.mem_cons.1 hx with rfl | hx
    · omega
    · have := hbl x hx; omega
  · intro x hx
    rcases h2 x hx with e | e
    · exact Or.inl e
    · rw [doW_size] at e; exact Or.inr (by omega)
  · have h1 : Chg (pd :: ownB lp) w w2 := (doW_chg w o _).trans hch
    refine ⟨hc.os.trans h1.os, hc.tape.trans h1.tape, hc.output.trans h1.output, Nat.le_trans h1.size hc.size, fun k hk hn => ?_⟩
    rw [hc.block k (Nat.lt_of_lt_of_le hk h1.size) (by simp; omega)]
    exact h1.block k hk hn

theorem dom_ret {tmps : Array Value} {w3 : World} {R : Nat} {e n m : Int} {s : ByteArray} {Q : Ending → World → Prop} (hp : tmps.getD 4 undef = .pointer (some ⟨R, 0, none⟩)) (hr : w3.heap[R]? = some (.cells (ansCells e n m s) 30 (0, 0)))
    (h : Q (.returned (ansV ⟨e, n, m, s⟩)) w3) : bodyPost Try.prog Try.f50 Q Exit.ret { tmps := tmps, defers := [] } w3 :=
  bodyPost_ret (results_cell_row rfl _ _ R 30 _ (0, 0) _ hp hr Try.underlying30 rfl (by kernel_rfl)) rfl h

/-- All that the model's functions ask. -/
structure MAll (N : Nat) (S : RS) (g : GS) : Prop where
  rel : Rel S g
  cnt : Cnt N g
  small : N ≤ 4398046511104

theorem MAll.key {N : Nat} {S : RS} {g : GS} (h : MAll N S g) : g.c.full = true → ∃ i : Nat, i < 4 ∧ g.c.key = i ∧ g.m.has i = true := by
  intro hf
  have hr := h.rel
  cases hb : baseOf S.ls with
  | none => rw [hr.noBase hb] at hf; cases hf
  | some c =>
    have hc := RelL.base hr.lay hb
    rw [hc] at hf ⊢
    rw [hr.m]
    have : ∀ {ls : List Layer}, (∀ x ∈ ls, x.keyed S.m) → baseOf ls = some c → keyIn S.m c := by
      intro ls
      induction ls with
      | nil => intro _ e; cases e
      | cons y r ih =>
        intro hr e
        cases y with
        | cached p c' => cases e; exact hr (.cached p c) (by simp)
        | limited p c' => cases e; exact hr (.limited p c) (by simp)
        | logged p l => exact ih (fun z hz => hr z (by simp [hz])) e
    exact this hr.keyed hb hf
end Go.Proofs.Qxb6500371a.W
