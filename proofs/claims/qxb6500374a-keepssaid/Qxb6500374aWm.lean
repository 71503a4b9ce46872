import Derived.Test.Qxb6500374aWl
set_option linter.unusedVariables false
set_option linter.unusedSimpArgs false
namespace Go.Proofs.Qxb6500374a.W
open Go.RowKit Go.Maps

theorem Ent.put {es es' : Array MapEntry} {clock clock' k : Nat} {v : Value} (h : Ent es clock) (hk : k < 8)
    (hcase : ((∃ j e, es.toList[j]? = some e ∧ kn e = k ∧ es'.toList = es.toList.set j { e with val := v }) ∧ clock' = clock) ∨ ((∀ e ∈ es.toList, kn e ≠ k) ∧ es' = es.push ⟨.int .i64 k, v, clock⟩ ∧ clock' = clock + 1)) :
    Ent es' clock' ∧ (∀ e' ∈ es'.toList, (kn e' = k ∧ e'.val = v) ∨ (kn e' ≠ k ∧ e' ∈ es.toList)) ∧ ∀ x, x ∈ keys es' ↔ (x ∈ keys es ∨ x = k) := by
  rcases hcase with ⟨⟨j, e, h1, h2, h3⟩, rfl⟩ | ⟨h1, rfl, rfl⟩
  · have hlt := (List.getElem?_eq_some_iff.1 h1).1
    have hmem := List.mem_of_getElem? h1
    have hkn : kn { e with val := v } = k := h2
    have hmap : es'.toList.map kn = es.toList.map kn := by
      rw [h3, List.map_set, hkn, ← h2]
      apply List.ext_getElem?
      intro i
      rw [List.getElem?_set]
      split
      · rename_i hij
        subst hij
        rw [if_pos (by simpa using hlt), List.getElem?_map, h1]
        rfl
      · rfl
    have hborn : es'.toList.map (·.born) = es.toList.map (·.born) := by
      rw [h3, List.map_set]
      apply List.ext_getElem?
      intro i
      rw [List.getElem?_set]
      split
      · rename_i hij
        subst hij
        rw [if_pos (by simpa using hlt), List.getElem?_map, h1]
        rfl
      · rfl
    have hm : ∀ e' ∈ es'.toList, e' = { e with val := v } ∨ e' ∈ es.toList := by
      intro e' he'
      rw [h3] at he'
      rcases List.mem_or_eq_of_mem_set he' with h | h
      · exact Or.inr h
      · exact Or.inl h
    have hone := h.one
    rw [← hmap] at hone
    have hst := h.stamp
    rw [← hborn] at hst
    have hjs : es'.toList[j]? = some { e with val := v } := by rw [h3, List.getElem?_set_self hlt]
    refine ⟨⟨?_, hone, ?_, hst⟩, ?_, ?_⟩
    · intro e' he'
      rcases hm e' he' with rfl | hx
      · exact ⟨by rw [hkn]; show e.key = _; rw [(h.key e hmem).1, h2], by rw [hkn]; exact hk⟩
      · exact h.key e' hx
    · intro e' he'
      rcases hm e' he' with rfl | hx
      · exact h.born e hmem
      · exact h.born e' hx
    · intro e' he'
      by_cases hke : kn e' = k
      · left
        refine ⟨hke, ?_⟩
        obtain ⟨i, hi, hg⟩ := List.getElem_of_mem he'
        have hj' : j < es'.toList.length := by rw [h3]; simpa using hlt
        have : i = j := by
          have hn := hone
          have e1 : (es'.toList.map kn)[i]'(by simpa using hi) = (es'.toList.map kn)[j]'(by simpa using hj') := by
            simp only [List.getElem_map]
            rw [hg, hke]
            have := List.getElem?_eq_getElem hj'
            rw [hjs] at this
            rw [← Option.some.inj this]
            exact hkn.symm
          exact (List.getElem_inj (h₀ := by simpa using hi) (h₁ := by simpa using hj') hn).1 e1
        subst this
        have := List.getElem?_eq_getElem hj'
        rw [hjs, hg] at this
        rw [← Option.some.inj this]
      · right
        refine ⟨hke, ?_⟩
        rcases hm e' he' with rfl | hx
        · exact absurd hkn hke
        · exact hx
    · intro x
      unfold keys
      rw [hmap]
      constructor
      · exact Or.inl
      · rintro (hx | rfl)
        · exact hx
        · rw [← h2]; exact List.mem_map_of_mem hmem
  · have hkn : kn ⟨.int .i64 k, v, clock⟩ = k := by simp [kn]
    refine ⟨⟨?_, ?_, ?_, ?_⟩, ?_, fun x => ?_⟩
    · intro e he
      simp at he
      rcases he with he | rfl
      · exact h.key e (by simpa using he)
      · rw [hkn]; exact ⟨rfl, hk⟩
    · rw [Array.toList_push, List.map_append, List.nodup_append]
      refine ⟨h.one, by simp, ?_⟩
      intro a ha b' hb'
      simp [hkn] at hb'
      subst hb'
      obtain ⟨e, he, rfl⟩ := List.mem_map.1 ha
      exact h1 e he
    · intro e he
      simp at he
      rcases he with he | rfl
      · have := h.born e (by simpa using he); omega
      · show clock < clock + 1; omega
    · rw [Array.toList_push, List.map_append, List.nodup_append]
      refine ⟨h.stamp, by simp, ?_⟩
      intro a ha b' hb'
      simp at hb'
      subst hb'
      obtain ⟨e, he, rfl⟩ := List.mem_map.1 ha
      have := h.born e he
      omega
    · intro e he
      simp at he
      rcases he with he | rfl
      · exact Or.inr ⟨h1 e (by simpa using he), by simpa using he⟩
      · exact Or.inl ⟨hkn, rfl⟩
    · unfold keys
      rw [Array.toList_push, List.map_append, List.mem_append]
      simp [hkn]

def updA {α : Type} (A : Nat → α) (k : Nat) (l : α) : Nat → α := fun i => if i = k then l else A i
theorem updA_same {α : Type} (A : Nat → α) (k : Nat) (l : α) : updA A k l k = l := by simp [updA]
theorem updA_ne {α : Type} (A : Nat → α) {k i : Nat} (l : α) (h : i ≠ k) : updA A k l i = A i := by simp [updA, h]

/-- 'w.adj[k] = l''. -/
theorem adj_put {w w1 : World} {pa : Nat} {A : Nat → List Nat} {B C : Nat → Nat} (h : AdjAt w pa A B C) {k : Nat} (hk : k < 8) {pl cap' : Nat} {l' : List Nat} (hl : l' ≠ [])
    (hm : w1.heap[pa]? = w.heap[pa]?) (hrow : ∀ j, j ≠ k → A j ≠ [] → RowAt w1 (B j) (A j) (C j)) (hnew : RowAt w1 pl l' cap') (hpa : pl ≠ pa) (hap : ∀ j, j ≠ k → A j ≠ [] → B j ≠ pl) :
    ∃ w2, (Instr.mapUpdate 39 (.map (some pa)) (.int .i64 k) (.slice (some ⟨pl, 0, none⟩) l'.length cap')).run Try.prog w1 = .ok () w2 ∧ AdjAt w2 pa (updA A k l') (updA B k pl) (updA C k cap') ∧ Chg [pa] w1 w2 := by
  obtain ⟨es, c, h1, h2, h3, h4⟩ := h.map
  rw [← hm] at h1
  obtain ⟨w2, es', c', hr, hb, hc, _, hcase⟩ := run_put h1 h2 Try.underlying39 k hk (.slice (some ⟨pl, 0, none⟩) l'.length cap')
  obtain ⟨g1, g2, g3⟩ := h2.put hk hcase
  refine ⟨w2, hr, ⟨⟨es', c', hb, g1, ?_, ?_⟩, ?_, ?_, ?_⟩, hc⟩
  · intro e he
    rcases g2 e he with ⟨e1, e2⟩ | ⟨e1, e2⟩
    · rw [adjV, e1, updA_same, updA_same, updA_same]
      exact ⟨hl, e2⟩
    · rw [adjV, updA_ne _ _ e1, updA_ne _ _ e1, updA_ne _ _ e1]
      exact h3 e e2
  · intro j hj
    by_cases e : j = k
    · exact (g3 j).2 (Or.inr e)
    · rw [updA_ne _ _ e] at hj
      exact (g3 j).2 (Or.inl (h4 j hj))
  · intro j hj
    by_cases e : j = k
    · subst e
      rw [updA_same, updA_same, updA_same]
      exact hnew.chg hc (by simpa using hpa)
    · rw [updA_ne _ _ e] at hj
      rw [updA_ne _ _ e, updA_ne _ _ e, updA_ne _ _ e]
      exact (hrow j e hj).chg hc (by simpa using h.apart j hj)
  · intro j hj
    by_cases e : j = k
    · subst e
      rw [updA_same]
      exact hpa
    · rw [updA_ne _ _ e] at hj
      rw [updA_ne _ _ e]
      exact h.apart j hj
  · intro i j hi hj hij
    by_cases ei : i = k
    · by_cases ej : j = k
      · omega
      · subst ei
        rw [updA_ne _ _ ej] at hj
        rw [updA_same, updA_ne _ _ ej] at hij
        exact absurd hij.symm (hap j ej hj)
    · rw [updA_ne _ _ ei] at hi
      rw [updA_ne _ _ ei] at hij
      by_cases ej : j = k
      · subst ej
        rw [updA_same] at hij
        exact absurd hij (hap i ei hi)
      · rw [updA_ne _ _ ej] at hj
        rw [updA_ne _ _ ej] at hij
        exact h.inj i j hi hj hij

theorem aok_put {A : Nat → List Nat} (h : AOk A) {k : Nat} (hk : k < 8) {l : List Nat} (h1 : l.length ≤ 3) (h2 : l.Nodup) (h3 : ∀ x ∈ l, x < 8) : AOk (updA A k l) := by
  refine ⟨fun j hj => ?_, fun j => ?_, fun j => ?_, fun j => ?_⟩
  · rw [updA_ne _ _ (by omega)]; exact h.out j hj
  all_goals
    by_cases e : j = k
    · subst e; rw [updA_same]; assumption
    · rw [updA_ne _ _ e]
      first | exact h.len j | exact h.one j | exact h.lt j

def isN (a : Int) : Bool := decide (0 ≤ a) && decide (a < 8)
theorem isN_iff {a : Int} : isN a = true ↔ ∃ k : Nat, k < 8 ∧ a = k := by
  unfold isN
  simp
  constructor
  · rintro ⟨h1, h2⟩
    exact ⟨a.toNat, by omega, by omega⟩
  · rintro ⟨k, h1, rfl⟩
    omega

/-- Link, plainly. -/
def linkS (S : WS) (a b : Int) : Int × WS :=
  if isN a = false ∨ isN b = false then (1, S) else if b.toNat ∈ S.A a.toNat then (2, S) else if 3 ≤ (S.A a.toNat).length then (3, S) else (0, { S with A := updA S.A a.toNat (S.A a.toNat ++ [b.toNat]) })

theorem linkS_ok {S : WS} (h : S.ok) (a b : Int) : (linkS S a b).2.ok := by
  unfold linkS
  split
  · exact h
  split
  · exact h
  split
  · exact h
  · rename_i h1 h2 h3
    have ha : isN a = true := by cases e : isN a <;> simp_all
    have hb : isN b = true := by cases e : isN b <;> simp_all
    obtain ⟨k, hk, rfl⟩ := isN_iff.1 ha
    obtain ⟨m, hm, rfl⟩ := isN_iff.1 hb
    simp only [Int.toNat_natCast] at *
    refine ⟨aok_put h.aok hk (by simp; omega) ?_ ?_, h.small⟩
    · rw [List.nodup_append]
      exact ⟨h.aok.one k, by simp, fun x hx y hy => by simp at hy; subst hy; intro e; subst e; exact h2 hx⟩
    · intro x hx
      rcases List.mem_append.1 hx with hx | hx
      · exact h.aok.lt k x hx
      · simp at hx; omega
end Go.Proofs.Qxb6500374a.W
