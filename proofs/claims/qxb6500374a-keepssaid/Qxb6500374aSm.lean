import Derived.Test.Qxb6500374aSn
import Derived.BigQuiet
set_option linter.unusedVariables false
set_option linter.unusedSimpArgs false
namespace Go.Proofs.Qxb6500374a.W
open Go.RowKit Go.Maps

theorem drewN_add (w : World) (a b : Nat) : (w.drewN a).drewN b = w.drewN (a + b) := by
  simp [World.drewN, Nat.add_assoc]

set_option maxHeartbeats 4000000 in
set_option maxRecDepth 4000 in
theorem countN_calls {w : World} {px pa ph : Nat} {B C : Nat → Nat} {S : WS} (h : WAt w px pa ph B C S) (ho : S.ok) {a b : Nat} (hab : a ≤ b) (hb1 : 1 ≤ b) (hb4 : b ≤ 4) :
    Calls Try.prog 31 #[pt px, .int .i64 a, .int .i64 b] w fun x w' => x = .returned (.tuple #[.int .i64 (S.cn (rj a b)), .int .i64 0]) ∧ ∃ m, w' = w.drewN m := by
  have HR : Hid (isR a b = true) := isR_iff.2 ⟨a, b, hab, hb4, rfl, rfl⟩
  have c1 : w.cell? ⟨px, 1, none⟩ = some (.map (some ph)) := cell_of h.row rfl
  have hk : ∀ n, (Instr.lookup 40 (.map (some ph)) (.float .f64 (fb (rj a b))) false).run Try.prog (w.drewN n) = .ok (.int .i64 (S.cn (rj a b))) (w.drewN n) := fun n =>
    ((h.chg ho.aok ((Chg.refl [] w).drewN n) (by simp)).hist.look (rj_lt a b)).1
  have HRC : Hid (∀ W : World, Calls Try.prog 45 #[.int .i64 a, .int .i64 b] W fun e w' => e = .returned (.float .f64 (fb (rj a b))) ∧ w' = W) := fun W => rateN_calls hab hb4 (by omega) W
  clear h ho
  generalize hcc : S.cn (rj a b) = cc at *
  have HCC : Hid (S.cn (rj a b) = cc) := hcc
  clear hcc
  generalize fb (rj a b) = fx at *
  go_enter Try.func31, Try.ntmps31
  go_wp2_with fail
  refine (isRate_calls a b w).mono ?_
  rintro x w2 ⟨rfl, hw2⟩
  obtain rfl : w = w2 := hw2.symm
  clear hw2
  rw [HR.out]
  go_wp2_with fail
  go_quiet (first | (go_at_call 45; refine Calls.quiet_of_same (HRC.out _)))
  go_wp2
  go_ret2
  exact ⟨rfl, nq, rfl⟩

set_option maxHeartbeats 8000000 in
set_option maxRecDepth 4000 in
theorem same_calls {w : World} {px pa ph : Nat} {B C : Nat → Nat} {pg pE pH pT pK : Nat} {S : WS} (hx : WAt w px pa ph B C S) (h : GhAt w pg pE pH pT pK S) (ho : S.ok) (hcap : ∀ j, j < 7 → S.cn j < 4611686018427387904) :
    Calls Try.prog 48 #[pt px, pt pg] w fun x w' => x = .returned (.bool true) ∧ Chg [] w w' := by
  obtain ⟨n, HH, TT, KZ, h⟩ := h
  have HX : Hid (WAt w px pa ph B C S) := hx
  have H : Hid (GhF w pg pE pH pT pK n HH TT KZ S) := h
  have HO : Hid S.ok := ho
  have HCAP : Hid (∀ j, j < 7 → S.cn j < 4611686018427387904) := hcap
  have hnum := h.ok.num
  have hsm := ho.small
  have hn10 : n ≤ 10 := by omega
  have hnn10 : S.nn ≤ 10 := by omega
  have ES : Hid (sizeS S = (n : Int) + (S.nn : Int)) := by show _ = _; unfold sizeS; omega
  have HXW : Hid (∀ W, Chg [] w W → WAt W px pa ph B C S) := fun W hW => HX.out.chg HO.out.aok hW (by simp)
  have HW : Hid (∀ W, Chg [] w W → GhF W pg pE pH pT pK n HH TT KZ S) := fun W hW => H.out.chg hW (by simp)
  clear hx h ho hcap hnum hsm
  go_enter Try.func48, Try.ntmps48
  go_wp2_with fail
  refine (size_calls HX.out).mono ?_
  rintro x w2 ⟨rfl, hw2⟩
  obtain rfl : w = w2 := hw2.symm
  clear hw2
  rw [ES.out]
  go_wp2_with fail
  refine (nans_calls HX.out HO.out).mono ?_
  rintro x w2 ⟨rfl, hc2⟩
  have HC2 : Hid (Chg [] w w2) := hc2
  have hg2 := HW.out w2 hc2
  have c4 : w2.cell? ⟨pg, 4, none⟩ = some (.int .i64 n) := cell_of hg2.row rfl
  have c5 : w2.cell? ⟨pg, 5, none⟩ = some (.int .i64 S.nn) := cell_of hg2.row rfl
  clear hc2 hg2
  go_wp2_with fail
  go_quiet (fail)
  have hcq : Chg [] w (w2.drewN nq) := HC2.out.drewN _
  clear c4 c5
  generalize w2.drewN nq = w3 at hcq ⊢
  have HC3 : Hid (Chg [] w w3) := hcq
  clear hcq HC2
  go_wp2_with fail
  refine (count_calls (HXW.out w3 HC3.out) HO.out 0 0).mono ?_
  rintro x w4 ⟨rfl, hc4⟩
  have e0 : countS S 0 0 = (0, 0) := by simp [countS, isR]
  rw [e0]
  have HC4 : Hid (Chg [] w w4) := HC3.out.trans hc4
  clear hc4 e0 HC3
  go_wp2_with fail
  go_loopw [9, 10, 11] (fun v9 _ _ wr => ∃ i : Nat, i ≤ n ∧ v9 = .int .i64 i ∧ Chg [] w wr) (fun v9 _ _ _ => ((n : Int) - intOf v9).toNat)
  case atStart => exact ⟨0, by omega, rfl, HC4.out⟩
  case round =>
    clear HC4
    obtain ⟨i, hi, rfl, hc⟩ := hrel
    rename World => wI
    have hgI := HW.out wI hc
    have HCI : Hid (Chg [] w wI) := hc
    have c4 : wI.cell? ⟨pg, 4, none⟩ = some (.int .i64 n) := cell_of hgI.row rfl
    by_cases hin : i < n
    · have d0 : decide (i < n) = true := by simpa using hin
      obtain ⟨e1, e2, e3, e4, e5, e6⟩ := H.out.ok.each i hin
      have c1 : wI.cell? ⟨pg, 1, none⟩ = some (.slice (some ⟨pH, 0, none⟩) 10 10) := cell_of hgI.row rfl
      have c2 : wI.cell? ⟨pg, 2, none⟩ = some (.slice (some ⟨pT, 0, none⟩) 10 10) := cell_of hgI.row rfl
      have ch := hgI.h.cell (i := i) (by omega)
      have ctt := hgI.t.cell (i := i) (by omega)
      have HKI : Hid (∀ W, Chg [] w W → W.cell? ⟨pg, 3, none⟩ = some (.slice (some ⟨pK, 0, none⟩) 10 10) ∧ W.cell? ⟨pK, i, none⟩ = some (.int .i64 (KZ i))) := fun W hW => ⟨cell_of (HW.out W hW).row rfl, (HW.out W hW).k.cell (by omega)⟩
      obtain ⟨x, hx⟩ : ∃ x : Nat, HH i = x := ⟨(HH i).toNat, by omega⟩
      obtain ⟨y, hy⟩ : ∃ y : Nat, TT i = y := ⟨(TT i).toNat, by omega⟩
      have hxy : x ≤ y := by omega
      have hy1 : 1 ≤ y := by omega
      have hy4 : y ≤ 4 := by omega
      have ek : KZ i = S.cn (rj x y) := by rw [e5, hx, hy]; rfl
      have LCH : Hid (∀ q : Nat, Calls Try.prog 31 #[pt px, .int .i64 x, .int .i64 y] (wI.drewN q) fun e w'' => e = .returned (.tuple #[.int .i64 (KZ i), .int .i64 0]) ∧ ∃ m, w'' = wI.drewN m) := by
        intro q
        refine (countN_calls (HXW.out _ (HCI.out.drewN q)) HO.out hxy hy1 hy4).mono ?_
        rintro z w' ⟨rfl, m, rfl⟩
        rw [ek]
        exact ⟨rfl, q + m, drewN_add _ _ _⟩
      rw [hx] at ch
      rw [hy] at ctt
      clear hgI hc e1 e2 e3 e4 e5 e6 ek hx hy
      generalize hki : KZ i = kki at *
      clear hki
      go_wp2_with fail
      go_quiet (first | (go_at_call 31; exact LCH.out _))
      have hcq : Chg [] w (wI.drewN nq) := HCI.out.drewN _
      clear c1 c2 c4 ch ctt
      generalize wI.drewN nq = w5 at hcq ⊢
      have HC5 : Hid (Chg [] w w5) := hcq
      obtain ⟨c3, ck⟩ := HKI.out w5 hcq
      clear hcq
      go_wp2
      go_roundw
      case rel =>
        first
        | exact ⟨i + 1, by omega, by simp, HC5.out⟩
        | ((repeat apply Exists.intro); refine ⟨?_, rfl⟩; exact ⟨i + 1, by omega, by simp, HC5.out⟩)
      case measure => first | (simp [intOf]; done) | (simp [intOf]; omega)
    · have d0 : decide (i < n) = false := by simpa using hin
      clear hgI hc
      go_wp2_with fail
      refine (show_calls (HXW.out wI HCI.out) HO.out HCAP.out).mono ?_
      rintro x w5 ⟨rfl, hc5⟩
      have HC5 : Hid (Chg [] w w5) := HCI.out.trans hc5
      clear hc5 c4
      go_wp2_with fail
      refine (shown_calls ⟨n, HH, TT, KZ, HW.out w5 HC5.out⟩ HO.out HCAP.out).mono ?_
      rintro x w6 ⟨rfl, hc6⟩
      have HC6 : Hid (Chg [] w w6) := HC5.out.trans hc6
      clear hc6
      have hsq := baSelf (showS S)
      generalize showS S = sq at *
      go_wp2_with fail
      refine (wcheck_calls (HXW.out w6 HC6.out) HO.out).mono ?_
      rintro x w7 ⟨rfl, hc7⟩
      have HC7 : Hid (Chg [] w w7) := HC6.out.trans hc7
      clear hc7
      go_wp2
      go_ret
      exact ⟨rfl, HC7.out⟩
end Go.Proofs.Qxb6500374a.W
