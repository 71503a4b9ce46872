import Derived.Test.Qxb6500374aMk
set_option linter.unusedVariables false
set_option linter.unusedSimpArgs false
namespace Go.Proofs.Qxb6500374a.W
open Go.RowKit Go.Maps

def hit (A : Nat → List Nat) (l : Nat → Int) (r a k : Nat) : Bool := decide (l a = (r : Int)) && (A a).contains k
def pr (A : Nat → List Nat) (l : Nat → Int) (r a b k : Nat) : Bool := ((List.range a).any fun a' => hit A l r a' k) || (decide (k < b) && hit A l r a k)
def mid (A : Nat → List Nat) (l : Nat → Int) (r a b k : Nat) : Int := if 0 ≤ l k then l k else if pr A l r a b k = true then (r : Int) + 1 else -1
def anyN (A : Nat → List Nat) (l : Nat → Int) (r a b : Nat) : Bool := (List.range 8).any fun k => decide (l k < 0) && pr A l r a b k
def dmid (A : Nat → List Nat) (l : Nat → Int) (r : Nat) (d : Nat) (a b : Nat) : Nat := if anyN A l r a b = true then r + 1 else d
def lev (A : Nat → List Nat) (s : Nat) : Nat → Nat → Int
  | 0 => fun k => if k = s then 0 else -1
  | r + 1 => mid A (lev A s r) r 8 0
def dp (A : Nat → List Nat) (s : Nat) : Nat → Nat
  | 0 => 0
  | r + 1 => dmid A (lev A s r) r (dp A s r) 8 0

theorem mid_ge (A : Nat → List Nat) (l : Nat → Int) (r a b k : Nat) : -1 ≤ mid A l r a b k := by
  unfold mid; split
  · omega
  · split <;> omega
theorem lev_ge (A : Nat → List Nat) (s : Nat) : ∀ r k, -1 ≤ lev A s r k
  | 0, k => by simp only [lev]; split <;> omega
  | r + 1, k => mid_ge _ _ _ _ _ _
theorem mid_le {A : Nat → List Nat} {l : Nat → Int} {r a b k : Nat} (h : l k ≤ r) : mid A l r a b k ≤ r + 1 := by
  unfold mid; split
  · omega
  · split <;> omega
theorem lev_le (A : Nat → List Nat) (s : Nat) : ∀ r k, lev A s r k ≤ r
  | 0, k => by simp only [lev]; split <;> omega
  | r + 1, k => by have := mid_le (A := A) (r := r) (a := 8) (b := 0) (lev_le A s r k); simp only [lev]; omega
theorem dp_le (A : Nat → List Nat) (s : Nat) : ∀ r, dp A s r ≤ r
  | 0 => Nat.le_refl _
  | r + 1 => by have := dp_le A s r; simp only [dp, dmid]; split <;> omega

theorem pr_zero (A : Nat → List Nat) (l : Nat → Int) (r k : Nat) : pr A l r 0 0 k = false := by simp [pr]
theorem mid_zero {A : Nat → List Nat} {l : Nat → Int} {r k : Nat} (h : -1 ≤ l k) : mid A l r 0 0 k = l k := by
  unfold mid
  rw [pr_zero]
  split
  · rfl
  · simp; omega
theorem dmid_zero (A : Nat → List Nat) (l : Nat → Int) (r d : Nat) : dmid A l r d 0 0 = d := by
  unfold dmid anyN
  simp [pr_zero]
theorem pr_next (A : Nat → List Nat) (l : Nat → Int) (r a k : Nat) (hk : k < 8) : pr A l r a 8 k = pr A l r (a + 1) 0 k := by
  unfold pr
  simp [List.range_succ, List.any_append, hk]
theorem mid_next (A : Nat → List Nat) (l : Nat → Int) (r a k : Nat) (hk : k < 8) : mid A l r a 8 k = mid A l r (a + 1) 0 k := by
  unfold mid
  rw [pr_next _ _ _ _ _ hk]
theorem any_congr {p q : Nat → Bool} (h : ∀ k, k < 8 → p k = q k) : (List.range 8).any p = (List.range 8).any q := by
  rw [Bool.eq_iff_iff, List.any_eq_true, List.any_eq_true]
  constructor
  · rintro ⟨k, hk, hp⟩; exact ⟨k, hk, by rw [← h k (List.mem_range.1 hk)]; exact hp⟩
  · rintro ⟨k, hk, hp⟩; exact ⟨k, hk, by rw [h k (List.mem_range.1 hk)]; exact hp⟩
theorem dmid_next (A : Nat → List Nat) (l : Nat → Int) (r d a : Nat) : dmid A l r d a 8 = dmid A l r d (a + 1) 0 := by
  unfold dmid anyN
  rw [any_congr (fun k hk => by rw [pr_next A l r a k hk])]

theorem mid_at {A : Nat → List Nat} {l : Nat → Int} {r a b : Nat} (h : -1 ≤ l a) : (mid A l r a b a = (r : Int)) ↔ l a = (r : Int) := by
  unfold mid
  by_cases h0 : 0 ≤ l a
  · rw [if_pos h0]
  · rw [if_neg h0]
    constructor
    · intro h1
      split at h1 <;> omega
    · intro h1; omega

theorem pr_ne {A : Nat → List Nat} {l : Nat → Int} {r a b k : Nat} (h : k ≠ b) : pr A l r a (b + 1) k = pr A l r a b k := by
  unfold pr
  by_cases hk : k < b
  · simp [hk, show k < b + 1 by omega]
  · simp [hk, show ¬ k < b + 1 by omega]

/-- The edge a -> b is seen to lead on. -/
theorem mid_set {A : Nat → List Nat} {l : Nat → Int} {r a b : Nat} (hb : b < 8) (h1 : l a = (r : Int)) (h2 : (A a).contains b = true) (h3 : mid A l r a b b < 0) (d : Nat) :
    (∀ k, updf (mid A l r a b) b ((r : Int) + 1) k = mid A l r a (b + 1) k) ∧ dmid A l r d a (b + 1) = r + 1 := by
  have hl : ¬ 0 ≤ l b := by
    intro h
    unfold mid at h3
    rw [if_pos h] at h3
    omega
  have hp : pr A l r a (b + 1) b = true := by
    unfold pr
    simp [hit, h1]
    right
    simpa using h2
  constructor
  · intro k
    unfold updf
    by_cases e : k = b
    · subst e
      rw [if_pos rfl]
      unfold mid
      rw [if_neg hl, if_pos hp]
    · rw [if_neg e]
      unfold mid
      rw [pr_ne e]
  · unfold dmid anyN
    rw [if_pos]
    rw [List.any_eq_true]
    exact ⟨b, List.mem_range.2 hb, by simp [hp]; omega⟩

/-- Else nothing turns. -/
theorem mid_stay {A : Nat → List Nat} {l : Nat → Int} {r a b : Nat} (hge : -1 ≤ l b) (h : ¬ (l a = (r : Int) ∧ (A a).contains b = true ∧ mid A l r a b b < 0)) (d : Nat) :
    (∀ k, mid A l r a b k = mid A l r a (b + 1) k) ∧ dmid A l r d a (b + 1) = dmid A l r d a b := by
  have key : ∀ k, l k < 0 → pr A l r a (b + 1) k = pr A l r a b k := by
    intro k hk
    by_cases e : k = b
    · subst e
      cases hh : hit A l r a k with
      | false => simp [pr, hh]
      | true =>
        unfold hit at hh
        simp only [Bool.and_eq_true, decide_eq_true_eq] at hh
        have hm : ¬ mid A l r a k k < 0 := fun hx => h ⟨hh.1, hh.2, hx⟩
        have hp : pr A l r a k k = true := by
          cases hp : pr A l r a k k with
          | true => rfl
          | false =>
            exfalso
            apply hm
            unfold mid
            rw [if_neg (by omega), hp]
            simp
        rw [hp]
        unfold pr at hp ⊢
        simp only [Nat.lt_irrefl, decide_false, Bool.false_and, Bool.or_false] at hp
        rw [hp]
        simp
    · exact pr_ne e
  constructor
  · intro k
    unfold mid
    by_cases h0 : 0 ≤ l k
    · rw [if_pos h0, if_pos h0]
    · rw [if_neg h0, if_neg h0, key k (by omega)]
  · unfold dmid anyN
    rw [any_congr (q := fun k => decide (l k < 0) && pr A l r a b k)]
    intro k _
    by_cases h0 : l k < 0
    · rw [key k h0]
    · simp [h0]

/-! What the levels are -/
theorem lev_ball {A : Nat → List Nat} (hA : AOk A) {s : Nat} : ∀ r, (∀ k, 0 ≤ lev A s r k ↔ Ball A s r k) ∧ (∀ k i : Nat, lev A s r k = (i : Int) → Ball A s i k)
  | 0 => by
    constructor
    · intro k
      simp only [lev, Ball]
      split <;> simp_all
    · intro k i h
      simp only [lev] at h
      split at h
      · rename_i e
        have : i = 0 := by omega
        subst this
        exact e
      · omega
  | r + 1 => by
    obtain ⟨h1, h2⟩ := lev_ball hA r
    have hnx : ∀ k, pr A (lev A s r) r 8 0 k = true ↔ ∃ a, lev A s r a = (r : Int) ∧ k ∈ A a := by
      intro k
      unfold pr hit
      simp only [Nat.not_lt_zero, decide_false, Bool.false_and, Bool.or_false, List.any_eq_true, List.mem_range, Bool.and_eq_true, decide_eq_true_eq, List.contains_iff_mem]
      constructor
      · rintro ⟨a, _, ha⟩; exact ⟨a, ha⟩
      · rintro ⟨a, ha, hk⟩
        refine ⟨a, ?_, ha, hk⟩
        rcases Nat.lt_or_ge a 8 with h8 | h8
        · exact h8
        · rw [hA.out a h8] at hk; cases hk
    constructor
    · intro k
      simp only [lev, mid, Ball]
      by_cases h0 : 0 ≤ lev A s r k
      · rw [if_pos h0]
        exact ⟨fun _ => Or.inl ((h1 k).1 h0), fun _ => h0⟩
      · rw [if_neg h0]
        by_cases hp : pr A (lev A s r) r 8 0 k = true
        · rw [if_pos hp]
          obtain ⟨a, ha, hk⟩ := (hnx k).1 hp
          exact ⟨fun _ => Or.inr ⟨a, (h1 a).1 (by omega), hk⟩, fun _ => by omega⟩
        · rw [if_neg hp]
          constructor
          · intro hx; omega
          · rintro (hb | ⟨j, hj, hk⟩)
            · exact absurd ((h1 k).2 hb) h0
            · exfalso
              have hj0 := (h1 j).2 hj
              have hjle := lev_le A s r j
              obtain ⟨i, hi⟩ : ∃ i : Nat, lev A s r j = (i : Int) := ⟨(lev A s r j).toNat, by omega⟩
              by_cases hir : i = r
              · exact hp ((hnx k).2 ⟨j, by rw [hi, hir], hk⟩)
              · have hb : Ball A s (i + 1) k := Or.inr ⟨j, h2 j i hi, hk⟩
                exact h0 ((h1 k).2 (Ball.mono (by omega) hb))
    · intro k i h
      simp only [lev, mid] at h
      split at h
      · exact h2 k i h
      · split at h
        · rename_i hp
          obtain ⟨a, ha, hk⟩ := (hnx k).1 hp
          have : i = r + 1 := by omega
          subst this
          exact Or.inr ⟨a, h2 a r ha, hk⟩
        · omega

theorem anyN_iff {A : Nat → List Nat} {l : Nat → Int} {r : Nat} (hge : ∀ k, -1 ≤ l k) : anyN A l r 8 0 = true ↔ ∃ k, k < 8 ∧ l k < 0 ∧ mid A l r 8 0 k = (r : Int) + 1 := by
  unfold anyN
  rw [List.any_eq_true]
  constructor
  · rintro ⟨k, hk, hp⟩
    simp only [Bool.and_eq_true, decide_eq_true_eq] at hp
    refine ⟨k, List.mem_range.1 hk, hp.1, ?_⟩
    unfold mid
    rw [if_neg (by omega), if_pos hp.2]
  · rintro ⟨k, hk, h0, hm⟩
    refine ⟨k, List.mem_range.2 hk, ?_⟩
    unfold mid at hm
    rw [if_neg (by omega)] at hm
    simp only [Bool.and_eq_true, decide_eq_true_eq]
    refine ⟨h0, ?_⟩
    split at hm
    · assumption
    · omega

/-- The greatest distance. -/
theorem dp_all {A : Nat → List Nat} (hA : AOk A) {s : Nat} (hs : s < 8) : ∀ r, (∀ k, Ball A s r k → Ball A s (dp A s r) k) ∧ (0 < dp A s r → ∃ k, k ≠ s ∧ Ball A s r k)
  | 0 => ⟨fun k h => h, fun h => by simp [dp] at h⟩
  | r + 1 => by
    obtain ⟨h1, h2⟩ := dp_all hA hs r
    obtain ⟨l1, l2⟩ := lev_ball hA (s := s) r
    obtain ⟨m1, m2⟩ := lev_ball hA (s := s) (r + 1)
    have hge := lev_ge A s r
    have hs0 : 0 ≤ lev A s r s := (l1 s).2 (Ball.mono (i := 0) (by omega) rfl)
    by_cases ha : anyN A (lev A s r) r 8 0 = true
    · have e : dp A s (r + 1) = r + 1 := by simp only [dp, dmid]; rw [if_pos ha]
      rw [e]
      refine ⟨fun k h => h, fun _ => ?_⟩
      obtain ⟨k, hk, h0, hm⟩ := (anyN_iff hge).1 ha
      refine ⟨k, fun e => by subst e; omega, (m1 k).1 ?_⟩
      show 0 ≤ mid A (lev A s r) r 8 0 k
      omega
    · have e : dp A s (r + 1) = dp A s r := by simp only [dp, dmid]; rw [if_neg ha]
      rw [e]
      have hback : ∀ k, Ball A s (r + 1) k → Ball A s r k := by
        intro k hk
        have hk8 : k < 8 := hk.rch.lt hA hs
        by_cases h0 : 0 ≤ lev A s r k
        · exact (l1 k).1 h0
        · exfalso
          apply ha
          rw [anyN_iff hge]
          refine ⟨k, hk8, by omega, ?_⟩
          have := (m1 k).2 hk
          simp only [lev] at this
          unfold mid at this ⊢
          rw [if_neg h0] at this ⊢
          split at this
          · rename_i hp; rw [if_pos hp]
          · omega
      exact ⟨fun k hk => h1 k (hback k hk), fun hp => by obtain ⟨k, hk1, hk2⟩ := h2 hp; exact ⟨k, hk1, Or.inl hk2⟩⟩

theorem lev_rch {A : Nat → List Nat} (hA : AOk A) {s : Nat} (hs : s < 8) (k : Nat) : decide (0 ≤ lev A s 8 k) = rchB A s k := by
  have h1 := (lev_ball hA (s := s) 8).1 k
  have h2 := rch_iff hA hs (k := k)
  have h3 := rch_ball hA hs (k := k)
  rw [Bool.eq_iff_iff, decide_eq_true_eq, h1, ← h2]
  exact ⟨Ball.rch, fun h => Ball.mono (by omega) (h3.1 h)⟩

def loF (A : Nat → List Nat) (s : Nat) : Int := if 0 < dp A s 8 then 2 else 1
def hiF (A : Nat → List Nat) (s : Nat) : Int := if 0 < dp A s 8 then (dp A s 8 : Int) + 1 else 1

/-- The rounds lie within the model's bounds. -/
theorem RB.span {A : Nat → List Nat} (hA : AOk A) {s r : Nat} (hs : s < 8) (h : RB A s r) : loF A s ≤ r ∧ (r : Int) ≤ hiF A s := by
  obtain ⟨h1, h2⟩ := dp_all hA hs 8
  have hall : ∀ k, Rch A s k → Ball A s (dp A s 8) k := fun k hk => h1 k (Ball.mono (by omega) ((rch_ball hA hs).1 hk))
  have hhi := h.hi _ hall
  have hlo := h.lo
  unfold loF hiF
  by_cases hd : 0 < dp A s 8
  · rw [if_pos hd, if_pos hd]
    obtain ⟨k, hk1, hk2⟩ := h2 hd
    have := h.two ⟨k, hk1, hk2.rch⟩
    omega
  · rw [if_neg hd, if_neg hd]
    omega
end Go.Proofs.Qxb6500374a.W
