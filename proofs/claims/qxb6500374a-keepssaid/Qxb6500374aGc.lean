import Derived.Test.Qxb6500374aCt
set_option linter.unusedVariables false
set_option linter.unusedSimpArgs false
namespace Go.Proofs.Qxb6500374a.W
open Go.RowKit Go.Maps

theorem rateN_calls {h t : Nat} (hh : h ≤ t) (ht : t ≤ 4) (h0 : 0 < t) (w : World) : Calls Try.prog 45 #[.int .i64 h, .int .i64 t] w fun e w' => e = .returned (.float .f64 (fb (rj h t))) ∧ w' = w := by
  refine (rate_calls hh ht w).mono ?_
  rintro x w2 (⟨_, h1, h2⟩ | ⟨h1, _⟩)
  · exact ⟨h1, h2⟩
  · omega

theorem Chg.drewN {bs : List Nat} {a w : World} (h : Chg bs a w) (n : Nat) : Chg bs a (w.drewN n) := ⟨h.os, h.tape, h.output, h.size, h.block⟩

set_option maxHeartbeats 1000000 in
set_option maxRecDepth 4000 in
theorem gcd_calls {a b : Nat} (ha : a ≤ 4) (hb : b ≤ 4) (w : World) : Calls Try.prog 47 #[.int .i64 a, .int .i64 b] w fun e w' => e = .returned (.int .i64 (Nat.gcd a b)) ∧ Chg [] w w' := by
  go_enter Try.func47, Try.ntmps47
  go_wp2_with fail
  go_loopw [0, 1] (fun v0 v1 wr => ∃ x y : Nat, v0 = .int .i64 x ∧ v1 = .int .i64 y ∧ x ≤ 4 ∧ y ≤ 4 ∧ Nat.gcd x y = Nat.gcd a b ∧ Chg [] w wr) (fun _ v1 _ => (intOf v1).toNat)
  case atStart => exact ⟨a, b, rfl, rfl, ha, hb, rfl, Chg.refl _ _⟩
  case round =>
    obtain ⟨x, y, rfl, rfl, hx, hy, hg, hc⟩ := hrel
    have HG : Hid (Nat.gcd x y = Nat.gcd a b) := hg
    have HC : Hid (Chg [] w wr) := hc
    clear hg hc
    rcases Nat.eq_zero_or_pos y with h0 | h0
    · have d : decide (0 < y) = false := by simp; omega
      have E : Hid (x = Nat.gcd a b) := by show x = _; rw [← HG.out, h0]; simp
      clear HG
      go_wp2
      go_ret
      rw [← E.out]
      exact ⟨rfl, HC.out⟩
    · have d : decide (0 < y) = true := by simpa using h0
      have hmod : (x : Int).tmod y = ((x % y : Nat) : Int) := rfl
      have hlt : x % y < y := Nat.mod_lt _ h0
      have HE : Hid (Nat.gcd y (x % y) = Nat.gcd a b) := by
        show _ = _
        rw [← HG.out, Nat.gcd_comm x y, Nat.gcd_rec y x, Nat.gcd_comm]
      clear HG
      go_wp2_with fail
      go_quiet (fail)
      go_wp2
      exact ⟨⟨y, x % y, rfl, by simp, hy, by omega, HE.out, HC.out.drewN _⟩, by simp [intOf]; omega⟩
end Go.Proofs.Qxb6500374a.W
