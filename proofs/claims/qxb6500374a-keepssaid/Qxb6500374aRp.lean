import Derived.Test.Qxb6500374aSet
set_option linter.unusedVariables false
set_option linter.unusedSimpArgs false
namespace Go.Proofs.Qxb6500374a.W

def ballB (A : Nat → List Nat) (s : Nat) : Nat → Nat → Bool
  | 0, k => k == s
  | i + 1, k => ballB A s i k || (List.range 8).any fun j => ballB A s i j && (A j).contains k

theorem ball_iff {A : Nat → List Nat} (h : AOk A) (s : Nat) : ∀ i k, Ball A s i k ↔ ballB A s i k = true
  | 0, k => by simp [Ball, ballB]
  | i + 1, k => by
    simp only [Ball, ballB, Bool.or_eq_true, List.any_eq_true, Bool.and_eq_true, List.mem_range, List.contains_iff_mem]
    constructor
    · rintro (hb | ⟨j, hj, hk⟩)
      · exact Or.inl ((ball_iff h s i k).1 hb)
      · refine Or.inr ⟨j, ?_, (ball_iff h s i j).1 hj, hk⟩
        rcases Nat.lt_or_ge j 8 with h8 | h8
        · exact h8
        · rw [h.out j h8] at hk; cases hk
    · rintro (hb | ⟨j, _, hj, hk⟩)
      · exact Or.inl ((ball_iff h s i k).2 hb)
      · exact Or.inr ⟨j, (ball_iff h s i j).2 hj, hk⟩

def ballC (A : Nat → List Nat) (s i : Nat) : Nat := ((List.range 8).filter (ballB A s i)).length

theorem ballC_le (A : Nat → List Nat) (s i : Nat) : ballC A s i ≤ 8 := by
  have := List.length_filter_le (ballB A s i) (List.range 8)
  simpa [ballC] using this

theorem ball_grow {A : Nat → List Nat} (h : AOk A) {s : Nat} (hs : s < 8) {i k : Nat} (h1 : Ball A s (i + 1) k) (h0 : ¬ Ball A s i k) : ballC A s i + 1 ≤ ballC A s (i + 1) := by
  have hk8 : k < 8 := h1.rch.lt h hs
  have := nodup_sub_length (l := k :: (List.range 8).filter (ballB A s i)) (m := (List.range 8).filter (ballB A s (i + 1))) (List.nodup_cons.2 ⟨by
      intro hm
      exact h0 ((ball_iff h s i k).2 (List.mem_filter.1 hm).2), List.Pairwise.filter _ List.nodup_range⟩) (by
      intro x hx
      rcases List.mem_cons.1 hx with rfl | hx
      · exact List.mem_filter.2 ⟨List.mem_range.2 hk8, (ball_iff h s _ _).1 h1⟩
      · obtain ⟨e1, e2⟩ := List.mem_filter.1 hx
        exact List.mem_filter.2 ⟨e1, (ball_iff h s _ _).1 (Or.inl ((ball_iff h s _ _).2 e2))⟩)
  simpa [ballC] using this

theorem ball_step {A : Nat → List Nat} (h : AOk A) {s : Nat} (hs : s < 8) : ∀ i, (∀ k, Ball A s (i + 1) k → Ball A s i k) ∨ i + 2 ≤ ballC A s (i + 1)
  | 0 => by
    by_cases hc : ∀ k, Ball A s 1 k → Ball A s 0 k
    · exact Or.inl hc
    · right
      obtain ⟨k, hk⟩ := Classical.not_forall.1 hc
      obtain ⟨h1, h0⟩ := Classical.not_imp.1 hk
      have := ball_grow h hs h1 h0
      have h1 : 1 ≤ ballC A s 0 := by
        have : s ∈ (List.range 8).filter (ballB A s 0) := List.mem_filter.2 ⟨List.mem_range.2 hs, by simp [ballB]⟩
        exact List.length_pos_of_mem this
      omega
  | i + 1 => by
    by_cases hc : ∀ k, Ball A s (i + 1 + 1) k → Ball A s (i + 1) k
    · exact Or.inl hc
    · right
      obtain ⟨k, hk⟩ := Classical.not_forall.1 hc
      obtain ⟨h1, h0⟩ := Classical.not_imp.1 hk
      have := ball_grow h hs h1 h0
      rcases ball_step h hs i with hb | hb
      · exfalso
        rcases h1 with h1 | ⟨j, hj, hkj⟩
        · exact h0 h1
        · exact h0 (Or.inr ⟨j, hb j hj, hkj⟩)
      · omega

theorem ball_closed {A : Nat → List Nat} (h : AOk A) {s : Nat} (hs : s < 8) : ∀ k, Ball A s 8 k → Ball A s 7 k := by
  rcases ball_step h hs 7 with hb | hb
  · exact hb
  · have := ballC_le A s (7 + 1)
    omega

theorem rch_ball {A : Nat → List Nat} (h : AOk A) {s : Nat} (hs : s < 8) {k : Nat} : Rch A s k ↔ Ball A s 7 k := by
  refine ⟨fun hr => ?_, Ball.rch⟩
  induction hr with
  | base => exact Ball.mono (i := 0) (by omega) rfl
  | step _ hm ih => exact ball_closed h hs _ (Or.inr ⟨_, ih, hm⟩)

/-- Is k reached from s? -/
def rchB (A : Nat → List Nat) (s k : Nat) : Bool := ballB A s 7 k
theorem rch_iff {A : Nat → List Nat} (h : AOk A) {s : Nat} (hs : s < 8) {k : Nat} : Rch A s k ↔ rchB A s k = true := (rch_ball h hs).trans (ball_iff h s 7 k)

/-- The nodes reached from s, ascending. -/
def rlist (A : Nat → List Nat) (s : Nat) : List Nat := (List.range 8).filter (rchB A s)
/-- The pairs reached from s, ascending. -/
def plist (A : Nat → List Nat) (s : Nat) : List Nat := (List.range 4).filter fun i => rchB A s (2 * i) || rchB A s (2 * i + 1)

theorem range_strict (n : Nat) : (List.range n).Pairwise (· < ·) := List.pairwise_lt_range
theorem rlist_strict (A : Nat → List Nat) (s : Nat) : (rlist A s).Pairwise (· < ·) := (range_strict 8).filter _
theorem plist_strict (A : Nat → List Nat) (s : Nat) : (plist A s).Pairwise (· < ·) := (range_strict 4).filter _
theorem mem_rlist {A : Nat → List Nat} (h : AOk A) {s : Nat} (hs : s < 8) {k : Nat} : k ∈ rlist A s ↔ Rch A s k := by
  unfold rlist
  rw [List.mem_filter, ← rch_iff h hs, List.mem_range]
  exact ⟨fun h => h.2, fun hr => ⟨hr.lt h hs, hr⟩⟩
end Go.Proofs.Qxb6500374a.W
