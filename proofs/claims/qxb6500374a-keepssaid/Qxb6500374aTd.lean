import Derived.Test.Qxb6500374aGh
set_option linter.unusedVariables false
set_option linter.unusedSimpArgs false
namespace Go.Proofs.Qxb6500374a.W
open Go.RowKit Go.Maps

set_option maxHeartbeats 4000000 in
set_option maxRecDepth 4000 in
theorem told1_calls {w : World} {pI : Nat} {p : Nat → Bool} (h : BGrid w pI 8 p) :
    Calls Try.prog 52 #[.slice (some ⟨pI, 0, none⟩) 8 8, .int .i64 1] w fun x w' => x = .returned (.tuple #[.int .i64 (fl p 8).length, .string (joinS (fl p 8))]) ∧ Chg [] w w' := by
  have HG : Hid (BGrid w pI 8 p) := h
  clear h
  go_enter Try.func52, Try.ntmps52
  go_wp2_with fail
  go_loopw [6, 7, 8, 9, 10] (fun v6 v7 v8 _ _ wr => ∃ i : Nat, i ≤ 8 ∧ v8 = .int .i64 i ∧ v6 = .int .i64 ((fl p i).length : Nat) ∧ v7 = .string (joinS (fl p i)) ∧ Chg [] w wr) (fun _ _ v8 _ _ _ => (8 - intOf v8).toNat)
  case atStart => exact ⟨0, by omega, rfl, rfl, rfl, Chg.refl _ _⟩
  case round =>
    obtain ⟨i, hi8, rfl, rfl, rfl, hc⟩ := hrel
    rename World => wI
    have HC : Hid (Chg [] w wI) := hc
    have hfl := fl_le p i
    have hsz := joinS_size (fl p i)
    by_cases h8 : i < 8
    · have ce := (HG.out.chg hc (by simp)).cell h8
      have s1 := itoa_size i
      clear hc
      cases hpv : p i with
      | true =>
        rw [hpv] at ce
        have EL : Hid ((fl p (i + 1)).length = (fl p i).length + 1 ∧ joinS (fl p (i + 1)) = (if 0 < (fl p i).length then joinS (fl p i) ++ ⟨#[44]⟩ else joinS (fl p i)) ++ itoa i) := by
          rw [fl_yes hpv]
          exact ⟨by simp, joinS_snoc _ _⟩
        clear hpv
        generalize (fl p i).length = n at *
        generalize joinS (fl p i) = sj at *
        by_cases hn0 : 0 < n
        · have d1 : decide (0 < n) = true := by simpa using hn0
          have EJ : Hid (joinS (fl p (i + 1)) = (sj ++ ⟨#[44]⟩) ++ itoa i) := by show _ = _; rw [EL.out.2, if_pos hn0]
          have EN : Hid ((fl p (i + 1)).length = n + 1) := EL.out.1
          clear EL
          go_wp2_with fail
          refine (itoa_calls i (by omega) (by omega) _).mono ?_
          rintro x w3 ⟨rfl, hc3⟩
          have HC3 : Hid (Chg [] w w3) := HC.out.trans hc3
          clear hc3 ce
          go_wp2
          exact ⟨⟨i + 1, by omega, by simp, by rw [EN.out]; simp, by rw [EJ.out], HC3.out⟩, by simp [intOf]; omega⟩
        · have d1 : decide (0 < n) = false := by simpa using hn0
          have EJ : Hid (joinS (fl p (i + 1)) = sj ++ itoa i) := by show _ = _; rw [EL.out.2, if_neg hn0]
          have EN : Hid ((fl p (i + 1)).length = n + 1) := EL.out.1
          clear EL
          go_wp2_with fail
          refine (itoa_calls i (by omega) (by omega) _).mono ?_
          rintro x w3 ⟨rfl, hc3⟩
          have HC3 : Hid (Chg [] w w3) := HC.out.trans hc3
          clear hc3 ce
          go_wp2
          exact ⟨⟨i + 1, by omega, by simp, by rw [EN.out]; simp, by rw [EJ.out], HC3.out⟩, by simp [intOf]; omega⟩
      | false =>
        rw [hpv] at ce
        have EL : Hid (fl p (i + 1) = fl p i) := fl_no hpv
        clear hpv
        generalize hfl2 : fl p i = L at *
        clear hfl2
        generalize hn : L.length = n at *
        have HNN : Hid (L.length = n) := hn
        generalize hj : joinS L = sj at *
        have HJJ : Hid (joinS L = sj) := hj
        clear hn hj
        go_wp2
        exact ⟨⟨i + 1, by omega, by simp, by rw [EL.out, HNN.out], by rw [EL.out, HJJ.out], HC.out⟩, by simp [intOf]; omega⟩
    · obtain rfl : i = 8 := by omega
      clear hc
      generalize hn : (fl p 8).length = n at *
      generalize hj : joinS (fl p 8) = sj at *
      have HX : Hid ((fl p 8).length = n ∧ joinS (fl p 8) = sj) := ⟨hn, hj⟩
      clear hn hj
      go_wp2
      go_ret2
      rw [HX.out.1, HX.out.2]
      exact ⟨rfl, HC.out⟩

set_option maxHeartbeats 4000000 in
set_option maxRecDepth 4000 in
theorem told2_calls {w : World} {pI : Nat} {f : Nat → Bool} (h : BGrid w pI 8 f) :
    Calls Try.prog 52 #[.slice (some ⟨pI, 0, none⟩) 8 8, .int .i64 2] w fun x w' => x = .returned (.tuple #[.int .i64 (fl (p2 f) 4).length, .string (joinS (fl (p2 f) 4))]) ∧ Chg [] w w' := by
  have HG : Hid (BGrid w pI 8 f) := h
  have HL2 : Hid (∀ i, p2 f i = (f (i * 2) || f (2 * i + 1))) := fun i => by rw [p2, Nat.mul_comm]
  clear h
  generalize hpe : p2 f = p at *
  have HPE : Hid (p2 f = p) := hpe
  clear hpe
  go_enter Try.func52, Try.ntmps52
  go_wp2_with fail
  go_loopw [6, 7, 8, 9, 10] (fun v6 v7 v8 _ _ wr => ∃ i : Nat, i ≤ 4 ∧ v8 = .int .i64 i ∧ v6 = .int .i64 ((fl p i).length : Nat) ∧ v7 = .string (joinS (fl p i)) ∧ Chg [] w wr) (fun _ _ v8 _ _ _ => (8 - intOf v8).toNat)
  case atStart => exact ⟨0, by omega, rfl, rfl, rfl, Chg.refl _ _⟩
  case round =>
    obtain ⟨i, hi8, rfl, rfl, rfl, hc⟩ := hrel
    rename World => wI
    have HC : Hid (Chg [] w wI) := hc
    have hfl := fl_le p i
    have hsz := joinS_size (fl p i)
    by_cases h8 : i < 4
    · have ce := (HG.out.chg hc (by simp)).cell (i := i * 2) (by omega)
      have ce2 := (HG.out.chg hc (by simp)).cell (i := 2 * i + 1) (by omega)
      have hp := HL2.out i
      have s1 := itoa_size i
      clear hc
      generalize f (i * 2) = f1 at *
      generalize f (2 * i + 1) = f2 at *
      cases hpv : p i with
      | true =>
        rw [hpv] at hp
        have EL : Hid ((fl p (i + 1)).length = (fl p i).length + 1 ∧ joinS (fl p (i + 1)) = (if 0 < (fl p i).length then joinS (fl p i) ++ ⟨#[44]⟩ else joinS (fl p i)) ++ itoa i) := by
          rw [fl_yes hpv]
          exact ⟨by simp, joinS_snoc _ _⟩
        clear hpv
        generalize (fl p i).length = n at *
        generalize joinS (fl p i) = sj at *
        by_cases hn0 : 0 < n
        · have d1 : decide (0 < n) = true := by simpa using hn0
          have EJ : Hid (joinS (fl p (i + 1)) = (sj ++ ⟨#[44]⟩) ++ itoa i) := by show _ = _; rw [EL.out.2, if_pos hn0]
          have EN : Hid ((fl p (i + 1)).length = n + 1) := EL.out.1
          clear EL
          cases f1 <;> cases f2
          · cases hp
          all_goals
            clear hp
            go_wp2_with fail
            refine (itoa_calls i (by omega) (by omega) _).mono ?_
            rintro x w3 ⟨rfl, hc3⟩
            have HC3 : Hid (Chg [] w w3) := HC.out.trans hc3
            clear hc3 ce ce2
            go_wp2
            exact ⟨⟨i + 1, by omega, by simp, by rw [EN.out]; simp, by rw [EJ.out], HC3.out⟩, by simp [intOf]; omega⟩
        · have d1 : decide (0 < n) = false := by simpa using hn0
          have EJ : Hid (joinS (fl p (i + 1)) = sj ++ itoa i) := by show _ = _; rw [EL.out.2, if_neg hn0]
          have EN : Hid ((fl p (i + 1)).length = n + 1) := EL.out.1
          clear EL
          cases f1 <;> cases f2
          · cases hp
          all_goals
            clear hp
            go_wp2_with fail
            refine (itoa_calls i (by omega) (by omega) _).mono ?_
            rintro x w3 ⟨rfl, hc3⟩
            have HC3 : Hid (Chg [] w w3) := HC.out.trans hc3
            clear hc3 ce ce2
            go_wp2
            exact ⟨⟨i + 1, by omega, by simp, by rw [EN.out]; simp, by rw [EJ.out], HC3.out⟩, by simp [intOf]; omega⟩
      | false =>
        rw [hpv] at hp
        have EL : Hid (fl p (i + 1) = fl p i) := fl_no hpv
        clear hpv
        generalize hfl2 : fl p i = L at *
        clear hfl2
        generalize hn : L.length = n at *
        have HNN : Hid (L.length = n) := hn
        generalize hj : joinS L = sj at *
        have HJJ : Hid (joinS L = sj) := hj
        clear hn hj
        cases f1 <;> cases f2
        · clear hp
          go_wp2
          exact ⟨⟨i + 1, by omega, by simp, by rw [EL.out, HNN.out], by rw [EL.out, HJJ.out], HC.out⟩, by simp [intOf]; omega⟩
        all_goals cases hp
    · obtain rfl : i = 4 := by omega
      clear hc
      generalize hn : (fl p 4).length = n at *
      generalize hj : joinS (fl p 4) = sj at *
      have HX : Hid ((fl p 4).length = n ∧ joinS (fl p 4) = sj) := ⟨hn, hj⟩
      clear hn hj
      go_wp2
      go_ret2
      rw [HX.out.1, HX.out.2]
      exact ⟨rfl, HC.out⟩

/-- Where a number's entry lies. -/
def WhereP (n : Nat) (H T cn : Nat → Int) (j : Nat) (w : World) (x : Ending) (w' : World) : Prop :=
  Chg [] w w' ∧ ((∃ i, i < n ∧ x = .returned (.int .i64 (i : Nat)) ∧ rI (H i) (T i) = j ∧ 0 < cn j) ∨ (x = .returned (.int .i64 (-1)) ∧ cn j = 0 ∧ ∀ i, i < n → rI (H i) (T i) ≠ j))

set_option maxHeartbeats 4000000 in
set_option maxRecDepth 4000 in
theorem where_calls {w : World} {pg pE pH pT pK n : Nat} {H T K : Nat → Int} {S : WS} (h : GhF w pg pE pH pT pK n H T K S) (hn10 : n ≤ 10) {a b : Nat} (hab : a ≤ b) (hb1 : 1 ≤ b) (hb4 : b ≤ 4) :
    Calls Try.prog 62 #[pt pg, .int .i64 a, .int .i64 b] w (WhereP n H T S.cn (rj a b) w) := by
  have HH : Hid (GhF w pg pE pH pT pK n H T K S) := h
  have c1 : w.cell? ⟨pg, 1, none⟩ = some (.slice (some ⟨pH, 0, none⟩) 10 10) := cell_of h.row rfl
  have c2 : w.cell? ⟨pg, 2, none⟩ = some (.slice (some ⟨pT, 0, none⟩) 10 10) := cell_of h.row rfl
  have c4 : w.cell? ⟨pg, 4, none⟩ = some (.int .i64 n) := cell_of h.row rfl
  have HW : Hid (∀ wr, Chg [] w wr → GhF wr pg pE pH pT pK n H T K S) := fun wr hc => HH.out.chg hc (by simp)
  clear h c1 c2 c4
  go_enter Try.func62, Try.ntmps62
  go_wp2_with fail
  go_loopw [7] (fun v7 wr => ∃ i : Nat, i ≤ n ∧ v7 = .int .i64 i ∧ (∀ k, k < i → rI (H k) (T k) ≠ rj a b) ∧ Chg [] w wr) (fun v7 _ => ((n : Int) - intOf v7).toNat)
  case atStart => exact ⟨0, by omega, rfl, fun k hk => by omega, Chg.refl _ _⟩
  case round =>
    obtain ⟨i, hi, rfl, hno, hc⟩ := hrel
    rename World => wI
    have hI := HW.out wI hc
    have c1 : wI.cell? ⟨pg, 1, none⟩ = some (.slice (some ⟨pH, 0, none⟩) 10 10) := cell_of hI.row rfl
    have c2 : wI.cell? ⟨pg, 2, none⟩ = some (.slice (some ⟨pT, 0, none⟩) 10 10) := cell_of hI.row rfl
    have c4 : wI.cell? ⟨pg, 4, none⟩ = some (.int .i64 n) := cell_of hI.row rfl
    have HC : Hid (Chg [] w wI) := hc
    have HNO : Hid (∀ k, k < i → rI (H k) (T k) ≠ rj a b) := hno
    by_cases hin : i < n
    · have d0 : decide (i < n) = true := by simpa using hin
      obtain ⟨e1, e2, e3, e4, e5, e6⟩ := HH.out.ok.each i hin
      have ch := hI.h.cell (i := i) (by omega)
      have ctt := hI.t.cell (i := i) (by omega)
      obtain ⟨x, hx⟩ : ∃ x : Nat, H i = x := ⟨(H i).toNat, by omega⟩
      obtain ⟨y, hy⟩ : ∃ y : Nat, T i = y := ⟨(T i).toNat, by omega⟩
      have hr : rI (H i) (T i) = rj x y := by rw [hx, hy]; rfl
      have HR : Hid (rI (H i) (T i) = rj x y ∧ 0 < S.cn (rj x y)) := ⟨hr, by rw [← hr]; exact e6⟩
      rw [hx] at ch e1 e2
      rw [hy] at ctt e2 e3 e4
      have hxy : x ≤ y := by omega
      have hy1 : 1 ≤ y := by omega
      have hy4 : y ≤ 4 := by omega
      have hcr := cross hxy hy1 hy4 hab hb1 hb4
      have m1 : x * b ≤ 16 := Nat.le_trans (Nat.mul_le_mul (show x ≤ 4 by omega) hb4) (by omega)
      have m2 : a * y ≤ 16 := Nat.le_trans (Nat.mul_le_mul (show a ≤ 4 by omega) hy4) (by omega)
      have p1 : (x : Int) * (b : Int) = ((x * b : Nat) : Int) := by simp
      have p2 : (a : Int) * (y : Int) = ((a * y : Nat) : Int) := by simp
      clear hI hc hno e1 e2 e3 e4 e5 e6 hx hy hr
      by_cases hq : x * b = a * y
      · have HF : Hid (rj x y = rj a b) := hcr.1 hq
        have dq2 : (((x : Int) * (b : Int)) == ((a : Int) * (y : Int))) = true := by rw [p1, p2, hq]; simp
        clear hcr hq p1 p2
        go_wp2_with fail
        go_quiet (fail)
        go_wp2
        go_ret
        exact ⟨HC.out.drewN _, Or.inl ⟨i, hin, rfl, by rw [HR.out.1, HF.out], by rw [← HF.out]; exact HR.out.2⟩⟩
      · have HF : Hid (rj x y ≠ rj a b) := fun e => hq (hcr.2 e)
        have dq2 : (((x : Int) * (b : Int)) == ((a : Int) * (y : Int))) = false := by
          rw [p1, p2]
          simp
          exact fun e => hq (by omega)
        clear hcr hq p1 p2
        go_wp2_with fail
        go_quiet (fail)
        go_wp2
        go_roundw
        case rel =>
          first
          | exact ⟨i + 1, by omega, by simp, fun k hk => by
              by_cases e : k = i
              · subst e; rw [HR.out.1]; exact HF.out
              · exact HNO.out k (by omega), HC.out.drewN _⟩
          | ((repeat apply Exists.intro); refine ⟨?_, rfl⟩; exact ⟨i + 1, by omega, by simp, fun k hk => by
              by_cases e : k = i
              · subst e; rw [HR.out.1]; exact HF.out
              · exact HNO.out k (by omega), HC.out.drewN _⟩)
        case measure => simp [intOf]; omega
    · obtain rfl : i = n := by omega
      have HF : Hid (S.cn (rj a b) = 0) := by
        show _ = _
        have h0 := HH.out.ok.pos _ (rj_lt a b)
        by_cases hp : 0 < S.cn (rj a b)
        · obtain ⟨k, hk, e⟩ := HH.out.ok.all _ (rj_lt a b) hp
          exact absurd e (HNO.out k hk)
        · omega
      clear hI hc hno
      go_wp2
      go_ret
      exact ⟨HC.out, Or.inr ⟨rfl, HF.out, HNO.out⟩⟩
end Go.Proofs.Qxb6500374a.W
