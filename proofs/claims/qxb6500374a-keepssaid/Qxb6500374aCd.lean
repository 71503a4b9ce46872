import Derived.Test.Qxb6500374aNt
set_option linter.unusedVariables false
set_option linter.unusedSimpArgs false
namespace Go.Proofs.Qxb6500374a.W
open Go.RowKit Go.Maps

def CountL (w : World) (px ph : Nat) (res : Int) (e : Ending) (w' : World) : Prop :=
  ∃ b, e = .returned (.float .f64 b) ∧ w'.cell? ⟨px, 1, none⟩ = some (.map (some ph)) ∧ (Instr.lookup 40 (.map (some ph)) (.float .f64 b) false).run Try.prog w' = .ok (.int .i64 res) w' ∧ Hid (Chg [] w w')

set_option maxHeartbeats 4000000 in
set_option maxRecDepth 4000 in
theorem count_calls {w : World} {px pa ph : Nat} {B C : Nat → Nat} {S : WS} (h : WAt w px pa ph B C S) (ho : S.ok) (hi t : Int) :
    Calls Try.prog 31 #[pt px, .int .i64 hi, .int .i64 t] w fun x w' => x = .returned (.tuple #[.int .i64 (countS S hi t).1, .int .i64 (countS S hi t).2]) ∧ Chg [] w w' := by
  cases hr : isR hi t with
  | false =>
    have e : countS S hi t = (0, 5) := by simp [countS, hr]
    rw [e]
    have HR : Hid (isR hi t = false) := hr
    clear h ho e hr
    go_enter Try.func31, Try.ntmps31
    go_wp2_with fail
    refine (isRate_calls hi t w).mono ?_
    rintro x w2 ⟨rfl, hw2⟩
    obtain rfl : w = w2 := hw2.symm
    clear hw2
    rw [HR.out]
    go_wp2
    go_ret2
    exact ⟨rfl, Chg.refl _ _⟩
  | true =>
    have HR : Hid (isR hi t = true) := hr
    obtain ⟨a, b, hab, hb4, rfl, rfl⟩ := isR_iff.1 hr
    have E : Hid ((countS S a b).2 = 0) := by simp [countS, hr, Hid]
    have LC : ∀ W : World, Chg [] w W → Calls Try.prog 45 #[.int .i64 a, .int .i64 b] W (CountL w px ph (countS S a b).1) := by
      intro W hW
      have hWA := h.chg ho.aok hW (by simp)
      refine (rate_calls hab hb4 W).mono ?_
      rintro x w2 (⟨h0, rfl, rfl⟩ | ⟨h0, nb, hnb, rfl, rfl⟩)
      · refine ⟨_, rfl, cell_of hWA.row rfl, ?_, hW⟩
        rw [(hWA.hist.look (rj_lt a b)).1, countS, if_pos hr, if_neg (by omega)]
        simp
      · have hWD := hWA.chg ho.aok (Chg.refl [] W).drew (by simp)
        refine ⟨_, rfl, cell_of hWD.row rfl, ?_, hW.drew⟩
        rw [(hWD.hist.lookNan hnb).1, countS, if_pos hr, if_pos (by omega)]
    have c1 : w.cell? ⟨px, 1, none⟩ = some (.map (some ph)) := cell_of h.row rfl
    generalize (countS S a b).1 = res at *
    have LCH : Hid (∀ W : World, Chg [] w W → Calls Try.prog 45 #[.int .i64 a, .int .i64 b] W (CountL w px ph res)) := LC
    rw [E.out]
    clear h ho hr LC
    go_enter Try.func31, Try.ntmps31
    go_wp2_with fail
    refine (isRate_calls a b w).mono ?_
    rintro x w2 ⟨rfl, hw2⟩
    obtain rfl : w = w2 := hw2.symm
    clear hw2
    rw [HR.out]
    go_wp2_with fail
    go_region_with (go_at_call 45; refine (LCH.out _ ?_).mono ?_; (first | exact (Chg.refl _ _).drew | exact Chg.refl _ _); rintro x w2 ⟨fx, rfl, c1', hk, HC⟩)
    all_goals
      go_wp2
      go_ret2
      exact ⟨rfl, HC.out⟩
end Go.Proofs.Qxb6500374a.W
