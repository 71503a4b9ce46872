import Derived.Test.Qxb6500374aCd
set_option linter.unusedVariables false
set_option linter.unusedSimpArgs false
namespace Go.Proofs.Qxb6500374a.W
open Go.RowKit Go.Maps

def DropL (w : World) (px pa ph : Nat) (B C : Nat → Nat) (S S' : WS) (e : Ending) (w' : World) : Prop :=
  ∃ b w3, e = .returned (.float .f64 b) ∧ w'.cell? ⟨px, 1, none⟩ = some (.map (some ph)) ∧ (∀ ty, (Builtin.delete_ #[40, 50] ty #[.map (some ph), .float .f64 b]).run Try.prog w' = .ok (.tuple #[]) w3) ∧ w3.cell? ⟨px, 1, none⟩ = some (.map (some ph)) ∧
    (∀ ty, (Builtin.len_ #[40] ty #[.map (some ph)]).run Try.prog w3 = .ok (.int .i64 (sizeS S')) w3) ∧ Hid (WStp px pa ph B C S S' w w3)

theorem WStp.pre {px pa ph : Nat} {B C : Nat → Nat} {S S' : WS} {w W w' : World} (h : WStp px pa ph B C S S' W w') (hc : Chg [] w W) : WStp px pa ph B C S S' w w' := by
  obtain ⟨⟨B', C', h1, h2⟩, h3⟩ := h
  exact ⟨⟨B', C', h1, fun x hx => by rcases h2 x hx with e | e; exact Or.inl e; exact Or.inr (Nat.le_trans hc.size e)⟩, hc.any.trans h3⟩

theorem nums_upd {cn : Nat → Int} {j : Nat} (hj : j < 7) (h0 : 0 < cn j) : nums cn = nums (upd cn j 0) + 1 := by
  have : j = 0 ∨ j = 1 ∨ j = 2 ∨ j = 3 ∨ j = 4 ∨ j = 5 ∨ j = 6 := by omega
  rcases this with rfl | rfl | rfl | rfl | rfl | rfl | rfl <;> simp [nums, upd, one1, h0] <;> omega

set_option maxHeartbeats 4000000 in
set_option maxRecDepth 4000 in
theorem drop_calls {w : World} {px pa ph : Nat} {B C : Nat → Nat} {S : WS} (h : WAt w px pa ph B C S) (ho : S.ok) (hi t : Int) :
    Calls Try.prog 32 #[pt px, .int .i64 hi, .int .i64 t] w fun x w' => x = .returned (.tuple #[.int .i64 (dropS S hi t).1, .int .i64 (dropS S hi t).2.1]) ∧ WStp px pa ph B C S (dropS S hi t).2.2 w w' := by
  cases hr : isR hi t with
  | false =>
    have H : Hid (WAt w px pa ph B C S) := h
    have HO : Hid S.ok := ho
    have e : dropS S hi t = (0, 5, S) := by simp [dropS, hr]
    rw [e]
    have HR : Hid (isR hi t = false) := hr
    clear h ho e hr
    go_enter Try.func32, Try.ntmps32
    go_wp2_with fail
    refine (isRate_calls hi t w).mono ?_
    rintro x w2 ⟨rfl, hw2⟩
    obtain rfl : w = w2 := hw2.symm
    clear hw2
    rw [HR.out]
    go_wp2
    go_ret2
    exact ⟨rfl, WStp.same H.out HO.out.aok (Chg.refl _ _)⟩
  | true =>
    have HR : Hid (isR hi t = true) := hr
    obtain ⟨a, b, hab, hb4, rfl, rfl⟩ := isR_iff.1 hr
    have E : Hid ((dropS S a b).2.1 = 0) := by
      show _ = _
      unfold dropS
      rw [if_pos hr]
      split
      · rfl
      · split <;> rfl
    have LC : ∀ W : World, Chg [] w W → Calls Try.prog 45 #[.int .i64 a, .int .i64 b] W (DropL w px pa ph B C S (dropS S a b).2.2) := by
      intro W hW
      have hWA := h.chg ho.aok hW (by simp)
      refine (rate_calls hab hb4 W).mono ?_
      rintro x w2 (⟨h0, rfl, rfl⟩ | ⟨h0, nb, hnb, rfl, rfl⟩)
      · obtain ⟨es, c, hm, hok⟩ := hWA.hist
        obtain ⟨w3, es', hdel, hm', hok', hc3, _⟩ := run_hdel hm hok (rj_lt a b)
        have hS : (dropS S a b).2.2 = { S with cn := upd S.cn (rj a b) 0 } := by
          rw [dropS, if_pos hr, if_neg (by omega)]
          by_cases hp : 0 < S.cn (rj a b)
          · simp [hp]
          · have h00 : S.cn (rj a b) = 0 := by have := hok.pos _ (rj_lt a b); omega
            have hu : upd S.cn (rj a b) 0 = S.cn := by funext i; unfold upd; split <;> simp_all
            simp [hp, hu]
        have hst : WStp px pa ph B C S { S with cn := upd S.cn (rj a b) 0 } _ w3 := WStp.hist hWA ho.aok ⟨es', c, hm', hok'⟩ hc3
        refine ⟨_, w3, rfl, cell_of hWA.row rfl, hdel, cell_of (hWA.hist' ho.aok ⟨es', c, hm', hok'⟩ hc3).row rfl, ?_, ?_⟩
        · rw [hS]
          exact HistAt.len ⟨es', c, hm', hok'⟩
        · rw [hS]
          exact hst.pre hW
      · have hWD := hWA.chg ho.aok (Chg.refl [] W).drew (by simp)
        obtain ⟨es, c, hm, hok⟩ := hWD.hist
        obtain ⟨w3, hdel, hm', hc3⟩ := run_hdelNan hm hok hnb
        have hS : (dropS S a b).2.2 = { S with cn := S.cn, nn := S.nn } := by
          rw [dropS, if_pos hr, if_pos (by omega)]
        have hst : WStp px pa ph B C S { S with cn := S.cn, nn := S.nn } W.drew w3 := WStp.hist hWD ho.aok ⟨es, c, hm', hok⟩ hc3
        refine ⟨_, w3, rfl, cell_of hWD.row rfl, hdel, cell_of (hWD.hist' ho.aok ⟨es, c, hm', hok⟩ hc3).row rfl, ?_, ?_⟩
        · rw [hS]
          exact HistAt.len ⟨es, c, hm', hok⟩
        · rw [hS]
          exact hst.pre hW.drew
    have c1 : w.cell? ⟨px, 1, none⟩ = some (.map (some ph)) := cell_of h.row rfl
    have hl : ∀ ty, (Builtin.len_ #[40] ty #[.map (some ph)]).run Try.prog w = .ok (.int .i64 (sizeS S)) w := h.hist.len
    have EQ : Hid (sizeS S - sizeS (dropS S a b).2.2 = (dropS S a b).1) := by
      show _ = _
      unfold dropS sizeS
      rw [if_pos hr]
      split
      · simp
      · split
        · rename_i h2
          have := nums_upd (rj_lt _ _) h2
          simp only
          omega
        · simp
    have hb1 : 0 ≤ sizeS S ∧ sizeS S ≤ 10 := by have := ho.small; unfold sizeS; omega
    have hb2 : 0 ≤ sizeS (dropS S a b).2.2 ∧ sizeS (dropS S a b).2.2 ≤ 10 := by
      have := ho.small
      unfold dropS
      rw [if_pos hr]
      split
      · exact hb1
      · split
        · rename_i h2
          have := nums_upd (rj_lt _ _) h2
          unfold sizeS
          simp only
          omega
        · exact hb1
    obtain ⟨hb1, hb1'⟩ := hb1
    obtain ⟨hb2, hb2'⟩ := hb2
    generalize (dropS S a b).2.2 = S' at *
    have LCH : Hid (∀ W : World, Chg [] w W → Calls Try.prog 45 #[.int .i64 a, .int .i64 b] W (DropL w px pa ph B C S S')) := LC
    rw [E.out]
    clear h ho hr LC
    go_enter Try.func32, Try.ntmps32
    go_wp2_with fail
    refine (isRate_calls a b w).mono ?_
    rintro x w2 ⟨rfl, hw2⟩
    obtain rfl : w = w2 := hw2.symm
    clear hw2
    rw [HR.out]
    go_wp2_with fail
    go_region_with (go_at_call 45; refine (LCH.out _ ?_).mono ?_; (first | exact (Chg.refl _ _).drew | exact Chg.refl _ _); rintro x w2 ⟨fx, w3, rfl, c1', hdel, c3, hl3, HST⟩)
    all_goals
      generalize sizeS S = n1 at *
      generalize sizeS S' = n2 at *
      go_wp2
      go_ret2
      rw [← EQ.out]
      exact ⟨rfl, HST.out⟩
end Go.Proofs.Qxb6500374a.W
