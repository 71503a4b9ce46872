import Derived.Test.Qxb6500374aCk
set_option linter.unusedVariables false
set_option linter.unusedSimpArgs false
namespace Go.Proofs.Qxb6500374a.W
open Go.RowKit Go.Maps

theorem read_big' (word sw bn ir : Nat) (f : Ieee.Format) (h1 : f.signWeight = sw) (h2 : f.binade = bn) (h3 : f.infRung = ir) (hb : bn ≤ ir) (hlt : ir < word % sw) : ∃ s p, f.read word = .nan s p := by
  unfold Ieee.Format.read
  simp only [h1, h2, h3]
  have a1 : ¬ word % sw < bn := by omega
  have a2 : ¬ word % sw < ir := by omega
  have a3 : ¬ word % sw = ir := by omega
  rw [if_neg a1, if_neg a2, if_neg a3]
  exact ⟨_, _, rfl⟩
theorem rung_big' (b r M I : Nat) (hI : I + 1 + r < M) : (b * M + I + 1 + r) % M = I + 1 + r := by
  rw [show b * M + I + 1 + r = (I + 1 + r) + M * b by rw [Nat.mul_comm b M]; omega, Nat.add_mul_mod_self_left]
  exact Nat.mod_eq_of_lt hI
theorem read_nan' (t : Nat) : ∃ s p, Ieee.double.read ((t % 2) * 2 ^ 63 + 0x7ff0000000000000 + 1 + (t / 2) % (2 ^ 52 - 1)) = .nan s p := by
  have hr : (t / 2) % (2 ^ 52 - 1) < 2 ^ 52 - 1 := Nat.mod_lt _ (by decide)
  refine read_big' _ (2 ^ 63) (2 ^ 52) 0x7ff0000000000000 _ (by decide) (by decide) (by decide) (by decide) ?_
  rw [rung_big' _ _ _ _ (by omega)]
  omega
theorem order_nan' {x : Nat} (h : ∃ s p, Ieee.double.read x = .nan s p) : NaNb x := by
  intro y
  obtain ⟨s, p, h⟩ := h
  simp only [ord, FloatKind.format, Ieee.Format.order, h]
  constructor
  · rfl
  · cases Ieee.double.read y <;> rfl

/-- hits and tries are a rate. -/
def isR (h t : Int) : Bool := decide (0 ≤ h) && (decide (h ≤ t) && decide (t ≤ 4))
/-- Which number hits/tries is, tries > 0. -/
def rj (h t : Nat) : Nat := if h = 0 then 0 else if h = t then 1 else if h * 2 = t then 2 else if h * 3 = t then 3 else if h * 3 = t * 2 then 4 else if h * 4 = t then 5 else 6
theorem rj_lt (h t : Nat) : rj h t < 7 := by unfold rj; repeat' split
                                             all_goals omega
theorem isR_iff {h t : Int} : isR h t = true ↔ ∃ a b : Nat, a ≤ b ∧ b ≤ 4 ∧ h = a ∧ t = b := by
  unfold isR
  simp only [Bool.and_eq_true, decide_eq_true_eq]
  constructor
  · rintro ⟨h1, h2, h3⟩
    exact ⟨h.toNat, t.toNat, by omega, by omega, by omega, by omega⟩
  · rintro ⟨a, b, h1, h2, rfl, rfl⟩
    omega

set_option maxRecDepth 4000 in
theorem isRate_calls (h t : Int) (w : World) : Calls Try.prog 44 #[.int .i64 h, .int .i64 t] w fun e w' => e = .returned (.bool (isR h t)) ∧ w' = w := by
  by_cases h0 : 0 ≤ h
  · by_cases h1 : h ≤ t
    · by_cases h2 : t ≤ 4
      · have d : isR h t = true := by simp [isR, h0, h1, h2]
        rw [d]
        clear d
        go_enter Try.func44, Try.ntmps44
        go_wp2
        go_ret
        exact ⟨rfl, rfl⟩
      · have d : isR h t = false := by simp [isR, h2]
        rw [d]
        clear d
        go_enter Try.func44, Try.ntmps44
        go_wp2
        go_ret
        exact ⟨rfl, rfl⟩
    · have d : isR h t = false := by simp [isR, h1]
      rw [d]
      clear d
      go_enter Try.func44, Try.ntmps44
      go_wp2
      go_ret
      exact ⟨rfl, rfl⟩
  · have d : isR h t = false := by simp [isR, h0]
    rw [d]
    clear d
    go_enter Try.func44, Try.ntmps44
    go_wp2
    go_ret
    exact ⟨rfl, rfl⟩

/-- The bits of a small int. -/
def ib : Nat → Nat
  | 0 => 0
  | 1 => 0x3FF0000000000000
  | 2 => 0x4000000000000000
  | 3 => 0x4008000000000000
  | _ => 0x4010000000000000
theorem conv_ib {a : Nat} (h : a ≤ 4) (w : World) : (Go.convert 3 50 (.int .i64 a)).run Try.prog w = .ok (.float .f64 (ib a)) w := by
  have : a = 0 ∨ a = 1 ∨ a = 2 ∨ a = 3 ∨ a = 4 := by omega
  rcases this with rfl | rfl | rfl | rfl | rfl <;> (show Sem.run _ _ _ = _; kernel_rfl)
theorem div_ib {a b : Nat} (h : a ≤ b) (hb : b ≤ 4) (h0 : 0 < b) (w : World) : (binOp .quo 50 (.float .f64 (ib a)) (.float .f64 (ib b))).run Try.prog w = .ok (.float .f64 (fb (rj a b))) w := by
  have h1 : b = 1 ∨ b = 2 ∨ b = 3 ∨ b = 4 := by omega
  have h2 : a = 0 ∨ a = 1 ∨ a = 2 ∨ a = 3 ∨ a = 4 := by omega
  rcases h1 with rfl | rfl | rfl | rfl <;> rcases h2 with rfl | rfl | rfl | rfl | rfl <;> first | omega | (show Sem.run _ _ _ = _; kernel_rfl)
theorem div_nan (w : World) : ∃ b, NaNb b ∧ (binOp .quo 50 (.float .f64 0) (.float .f64 0)).run Try.prog w = .ok (.float .f64 b) w.drew := by
  have hdiv : FloatKind.f64.format.div 0 0 = none := by kernel_rfl
  refine ⟨Question.cut (.nanBits .f64 0 0) (w.tape w.drawn (.nanBits .f64 0 0)), order_nan' (read_nan' _), ?_⟩
  simp only [binOp, Op.floatArith, ne_eq, not_true_eq_false, if_false, Sem.run_bind, Sem.run_pure, Result.andThen_ok, hdiv, run_choose, Question.forced, Bool.false_eq_true]
  rfl

def RateP (h t : Nat) (w : World) (e : Ending) (w' : World) : Prop := (0 < t ∧ e = .returned (.float .f64 (fb (rj h t))) ∧ w' = w) ∨ (t = 0 ∧ ∃ b, NaNb b ∧ e = .returned (.float .f64 b) ∧ w' = w.drew)

set_option maxRecDepth 4000 in
theorem rate_calls {h t : Nat} (hh : h ≤ t) (ht : t ≤ 4) (w : World) : Calls Try.prog 45 #[.int .i64 h, .int .i64 t] w (RateP h t w) := by
  have e1 := conv_ib (a := h) (by omega) w
  have e2 := conv_ib ht w
  rcases Nat.eq_zero_or_pos t with h0 | h0
  · obtain rfl : h = 0 := by omega
    subst h0
    obtain ⟨b, hb, e3⟩ := div_nan w
    have HB : Hid (NaNb b) := hb
    clear hb
    have e1 : (Go.convert 3 50 (.int .i64 0)).run Try.prog w = .ok (.float .f64 0) w := e1
    clear e2
    show Calls Try.prog 45 #[.int .i64 0, .int .i64 0] w _
    go_enter Try.func45, Try.ntmps45
    go_wp2
    go_ret
    exact Or.inr ⟨rfl, b, HB.out, rfl, rfl⟩
  · have e3 := div_ib hh ht h0 w
    have H0 : Hid (0 < t) := h0
    clear h0
    generalize ib h = x at *
    generalize ib t = y at *
    go_enter Try.func45, Try.ntmps45
    go_wp2
    go_ret
    exact Or.inl ⟨H0.out, rfl, rfl⟩
end Go.Proofs.Qxb6500374a.W
