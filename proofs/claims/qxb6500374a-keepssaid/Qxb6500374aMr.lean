import Derived.Test.Qxb6500374aFb
set_option linter.unusedVariables false
set_option linter.unusedSimpArgs false
namespace Go.Proofs.Qxb6500374a.W
open Go.RowKit Go.Maps

theorem joinT_app (l m : List Nat) : ∀ j, j ≤ l.length → joinT (l ++ m) j = joinT l j
  | 0, _ => rfl
  | j + 1, h => by
    have e : (l ++ m).getD j 0 = l.getD j 0 := by
      simp only [List.getD_eq_getElem?_getD]
      rw [List.getElem?_append_left (by omega)]
    rw [joinT, joinT, joinT_app l m j (by omega), e]
theorem joinS_snoc (l : List Nat) (x : Nat) : joinS (l ++ [x]) = (if 0 < l.length then joinS l ++ ⟨#[44]⟩ else joinS l) ++ itoa x := by
  have e : (l ++ [x]).length = l.length + 1 := by simp
  unfold joinS
  rw [e, joinT, joinT_app l [x] l.length (Nat.le_refl _)]
  have e2 : (l ++ [x]).getD l.length 0 = x := by simp [List.getD_eq_getElem?_getD]
  rw [e2]
theorem joinS_size (l : List Nat) : (joinS l).size ≤ 22 * l.length := joinT_size l _

/-- The first i numbers of which p holds. -/
def fl (p : Nat → Bool) (i : Nat) : List Nat := (List.range i).filter p
theorem fl_yes {p : Nat → Bool} {i : Nat} (h : p i = true) : fl p (i + 1) = fl p i ++ [i] := by unfold fl; rw [filter_range_succ, if_pos h]
theorem fl_no {p : Nat → Bool} {i : Nat} (h : p i = false) : fl p (i + 1) = fl p i := by unfold fl; rw [filter_range_succ, if_neg (by simp [h])]; simp
theorem fl_le (p : Nat → Bool) (i : Nat) : (fl p i).length ≤ i := by
  have := List.length_filter_le p (List.range i)
  rw [List.length_range] at this
  exact this

def loR (S : WS) (s lo : Int) : Int := if isN s = true then loF S.A s.toNat else lo
def hiR (S : WS) (s hi : Int) : Int := if isN s = true then hiF S.A s.toNat else hi

set_option maxHeartbeats 4000000 in
set_option maxRecDepth 4000 in
theorem mreach_calls {w : World} {pd pA pC : Nat} {lo hi : Int} {S : WS} (h : MdAt w pd pA pC lo hi S) (ho : S.ok) (s : Int) :
    Calls Try.prog 66 #[pt pd, .int .i64 s] w fun x w' => x = .returned (.tuple #[.int .i64 (reachS S s 0).1, .string (reachS S s 0).2.1, .int .i64 (reachS S s 0).2.2.1]) ∧ MStp pd pA pC S (loR S s lo) (hiR S s hi) w w' := by
  have H : Hid (MdAt w pd pA pC lo hi S) := h
  have HO : Hid S.ok := ho
  cases hn : isN s with
  | false =>
    have HN : Hid (isN s = false) := hn
    have e1 : loR S s lo = lo := by simp [loR, hn]
    have e2 : hiR S s hi = hi := by simp [hiR, hn]
    have e3 : reachS S s 0 = (0, ⟨#[]⟩, 1, S) := by simp [reachS, hn]
    rw [e1, e2, e3]
    clear h ho hn e1 e2 e3
    go_enter Try.func66, Try.ntmps66
    go_wp2_with fail
    refine (mnode_calls s w).mono ?_
    rintro x w2 ⟨rfl, hw2⟩
    obtain rfl : w = w2 := hw2.symm
    clear hw2
    rw [HN.out]
    go_wp2
    go_ret3
    exact ⟨rfl, MStp.same H.out (Chg.refl _ _)⟩
  | true =>
    have HN : Hid (isN s = true) := hn
    obtain ⟨k, hk, rfl⟩ := isN_iff.1 hn
    have e1 : loR S k lo = loF S.A k := by rw [loR, if_pos hn]; rfl
    have e2 : hiR S k hi = hiF S.A k := by rw [hiR, if_pos hn]; rfl
    have e3 : reachS S k 0 = (((fl (rchB S.A k) 8).length : Int), joinS (fl (rchB S.A k) 8), 0, { S with rd := (0 : Nat) }) := by rw [reachS, if_pos hn]; rfl
    rw [e1, e2, e3]
    have HL : Hid (∀ i, decide (0 ≤ lev S.A k 8 i) = rchB S.A k i) := fun i => lev_rch ho.aok hk i
    clear h ho hn e1 e2 e3
    go_enter Try.func66, Try.ntmps66
    go_wp2_with fail
    refine (mnode_calls k w).mono ?_
    rintro x w2 ⟨rfl, hw2⟩
    obtain rfl : w = w2 := hw2.symm
    clear hw2
    rw [HN.out]
    go_wp2_with fail
    refine (far_calls H.out HO.out hk).mono ?_
    rintro x w1 ⟨pD, hpD, rfl, hg, hmd, hc⟩
    have HG : Hid (IGrid w1 pD 8 (lev S.A k 8)) := hg
    have HM : Hid (MdAt w1 pd pA pC (loF S.A k) (hiF S.A k) S ∧ Chg [pd] w w1) := ⟨hmd, hc⟩
    clear hpD hg hmd hc
    generalize hpe : rchB S.A k = p at *
    have HPE : Hid (rchB S.A k = p) := hpe
    clear hpe
    generalize lev S.A k 8 = l at *
    go_wp2_with fail
    go_loopw [8, 9, 10, 11] (fun v8 v9 v10 _ wr => ∃ i : Nat, i ≤ 8 ∧ v10 = .int .i64 i ∧ v8 = .int .i64 ((fl p i).length : Nat) ∧ v9 = .string (joinS (fl p i)) ∧ Chg [] w1 wr) (fun _ _ v10 _ _ => (8 - intOf v10).toNat)
    case atStart => exact ⟨0, by omega, rfl, rfl, rfl, Chg.refl _ _⟩
    case round =>
      obtain ⟨i, hi8, rfl, rfl, rfl, hc⟩ := hrel
      rename World => wI
      have HC : Hid (Chg [] w1 wI) := hc
      have hfl := fl_le p i
      have hsz := joinS_size (fl p i)
      by_cases h8 : i < 8
      · have ce := (HG.out.chg hc (by simp)).cell h8
        have hp := HL.out i
        have s1 := itoa_size i
        clear hc
        generalize l i = li at *
        cases hpv : p i with
        | true =>
          rw [hpv] at hp
          have hli : 0 ≤ li := by simpa using hp
          have EL : Hid ((fl p (i + 1)).length = (fl p i).length + 1 ∧ joinS (fl p (i + 1)) = (if 0 < (fl p i).length then joinS (fl p i) ++ ⟨#[44]⟩ else joinS (fl p i)) ++ itoa i) := by
            rw [fl_yes hpv]
            exact ⟨by simp, joinS_snoc _ _⟩
          clear hpv
          generalize (fl p i).length = n at *
          generalize joinS (fl p i) = sj at *
          by_cases hn0 : 0 < n
          · have d1 : decide (0 < n) = true := by simpa using hn0
            have EJ : Hid (joinS (fl p (i + 1)) = (sj ++ ⟨#[44]⟩) ++ itoa i) := by show _ = _; rw [EL.out.2, if_pos hn0]
            have EN : Hid ((fl p (i + 1)).length = n + 1) := EL.out.1
            clear EL
            go_wp2_with fail
            refine (itoa_calls i (by omega) (by omega) _).mono ?_
            rintro x w3 ⟨rfl, hc3⟩
            have HC3 : Hid (Chg [] w1 w3) := HC.out.trans hc3
            clear hc3 ce
            go_wp2
            exact ⟨⟨i + 1, by omega, by simp, by rw [EN.out]; simp, by rw [EJ.out], HC3.out⟩, by simp [intOf]; omega⟩
          · have d1 : decide (0 < n) = false := by simpa using hn0
            have EJ : Hid (joinS (fl p (i + 1)) = sj ++ itoa i) := by show _ = _; rw [EL.out.2, if_neg hn0]
            have EN : Hid ((fl p (i + 1)).length = n + 1) := EL.out.1
            clear EL
            go_wp2_with fail
            refine (itoa_calls i (by omega) (by omega) _).mono ?_
            rintro x w3 ⟨rfl, hc3⟩
            have HC3 : Hid (Chg [] w1 w3) := HC.out.trans hc3
            clear hc3 ce
            go_wp2
            exact ⟨⟨i + 1, by omega, by simp, by rw [EN.out]; simp, by rw [EJ.out], HC3.out⟩, by simp [intOf]; omega⟩
        | false =>
          rw [hpv] at hp
          have hli : li < 0 := by simpa using hp
          have EL : Hid (fl p (i + 1) = fl p i) := fl_no hpv
          clear hpv
          generalize hfl2 : fl p i = L at *
          clear hfl2
          generalize hn : L.length = n at *
          have HNN : Hid (L.length = n) := hn
          generalize hj : joinS L = sj at *
          have HJJ : Hid (joinS L = sj) := hj
          clear hn hj
          go_wp2
          exact ⟨⟨i + 1, by omega, by simp, by rw [EL.out, HNN.out], by rw [EL.out, HJJ.out], HC.out⟩, by simp [intOf]; omega⟩
      · obtain rfl : i = 8 := by omega
        clear hc
        generalize hn : (fl p 8).length = n at *
        generalize hj : joinS (fl p 8) = sj at *
        have HX : Hid ((fl p 8).length = n ∧ joinS (fl p 8) = sj) := ⟨hn, hj⟩
        clear hn hj
        go_wp2
        go_ret3
        rw [HPE.out, HX.out.1, HX.out.2]
        exact ⟨rfl, HM.out.1.chg HC.out (by simp), (HM.out.2.mono (by simp)).trans HC.out.any⟩

def p2 (p : Nat → Bool) (i : Nat) : Bool := p (2 * i) || p (2 * i + 1)

set_option maxHeartbeats 4000000 in
set_option maxRecDepth 4000 in
theorem mtwins_calls {w : World} {pd pA pC : Nat} {lo hi : Int} {S : WS} (h : MdAt w pd pA pC lo hi S) (ho : S.ok) (s : Int) :
    Calls Try.prog 67 #[pt pd, .int .i64 s] w fun x w' => x = .returned (.tuple #[.int .i64 (twinsS S s 0).1, .int .i64 (twinsS S s 0).2.1, .string (twinsS S s 0).2.2.1, .int .i64 (twinsS S s 0).2.2.2.1]) ∧ MStp pd pA pC S (loR S s lo) (hiR S s hi) w w' := by
  have H : Hid (MdAt w pd pA pC lo hi S) := h
  have HO : Hid S.ok := ho
  cases hn : isN s with
  | false =>
    have HN : Hid (isN s = false) := hn
    have e1 : loR S s lo = lo := by simp [loR, hn]
    have e2 : hiR S s hi = hi := by simp [hiR, hn]
    have e3 : twinsS S s 0 = (0, 0, ⟨#[]⟩, 1, S) := by simp [twinsS, hn]
    rw [e1, e2, e3]
    clear h ho hn e1 e2 e3
    go_enter Try.func67, Try.ntmps67
    go_wp2_with fail
    refine (mnode_calls s w).mono ?_
    rintro x w2 ⟨rfl, hw2⟩
    obtain rfl : w = w2 := hw2.symm
    clear hw2
    rw [HN.out]
    go_wp2
    refine bodyPost_ret (results_tmp4 rfl _ _ _) rfl ?_
    exact ⟨rfl, MStp.same H.out (Chg.refl _ _)⟩
  | true =>
    have HN : Hid (isN s = true) := hn
    obtain ⟨k, hk, rfl⟩ := isN_iff.1 hn
    have e1 : loR S k lo = loF S.A k := by rw [loR, if_pos hn]; rfl
    have e2 : hiR S k hi = hiF S.A k := by rw [hiR, if_pos hn]; rfl
    have e3 : twinsS S k 0 = (((fl (p2 (rchB S.A k)) 4).length : Int), ((fl (p2 (rchB S.A k)) 4).length : Int), joinS (fl (p2 (rchB S.A k)) 4), 0, { S with rd := (0 : Nat) }) := by rw [twinsS, if_pos hn]; rfl
    rw [e1, e2, e3]
    have HL : Hid (∀ i, decide (0 ≤ lev S.A k 8 i) = rchB S.A k i) := fun i => lev_rch ho.aok hk i
    clear h ho hn e1 e2 e3
    go_enter Try.func67, Try.ntmps67
    go_wp2_with fail
    refine (mnode_calls k w).mono ?_
    rintro x w2 ⟨rfl, hw2⟩
    obtain rfl : w = w2 := hw2.symm
    clear hw2
    rw [HN.out]
    go_wp2_with fail
    refine (far_calls H.out HO.out hk).mono ?_
    rintro x w1 ⟨pD, hpD, rfl, hg, hmd, hc⟩
    have HG : Hid (IGrid w1 pD 8 (lev S.A k 8)) := hg
    have HM : Hid (MdAt w1 pd pA pC (loF S.A k) (hiF S.A k) S ∧ Chg [pd] w w1) := ⟨hmd, hc⟩
    clear hpD hg hmd hc
    have HL2 : Hid (∀ i, p2 (rchB S.A k) i = (decide (0 ≤ lev S.A k 8 (2 * i)) || decide (0 ≤ lev S.A k 8 (2 * i + 1)))) := fun i => by rw [p2, HL.out, HL.out]
    generalize hpe : p2 (rchB S.A k) = p at *
    have HPE : Hid (p2 (rchB S.A k) = p) := hpe
    clear hpe
    generalize lev S.A k 8 = l at *
    go_wp2_with fail
    go_loopw [9, 10, 11, 12] (fun v9 v10 v11 _ wr => ∃ i : Nat, i ≤ 4 ∧ v11 = .int .i64 i ∧ v9 = .int .i64 ((fl p i).length : Nat) ∧ v10 = .string (joinS (fl p i)) ∧ Chg [] w1 wr) (fun _ _ v11 _ _ => (8 - intOf v11).toNat)
    case atStart => exact ⟨0, by omega, rfl, rfl, rfl, Chg.refl _ _⟩
    case round =>
      obtain ⟨i, hi8, rfl, rfl, rfl, hc⟩ := hrel
      rename World => wI
      have HC : Hid (Chg [] w1 wI) := hc
      have hfl := fl_le p i
      have hsz := joinS_size (fl p i)
      by_cases h8 : i < 4
      · have ce := (HG.out.chg hc (by simp)).cell (i := 2 * i) (by omega)
        have ce2 := (HG.out.chg hc (by simp)).cell (i := 2 * i + 1) (by omega)
        have hp := HL2.out i
        have s1 := itoa_size i
        clear hc
        generalize l (2 * i) = li at *
        generalize l (2 * i + 1) = lj at *
        cases hpv : p i with
        | true =>
          rw [hpv] at hp
          have EL : Hid ((fl p (i + 1)).length = (fl p i).length + 1 ∧ joinS (fl p (i + 1)) = (if 0 < (fl p i).length then joinS (fl p i) ++ ⟨#[44]⟩ else joinS (fl p i)) ++ itoa i) := by
            rw [fl_yes hpv]
            exact ⟨by simp, joinS_snoc _ _⟩
          clear hpv
          generalize (fl p i).length = n at *
          generalize joinS (fl p i) = sj at *
          have HCASE : Hid (0 ≤ li ∨ li < 0 ∧ 0 ≤ lj) := by
            show _ ∨ _
            simp at hp
            omega
          clear hp
          by_cases hn0 : 0 < n
          · have d1 : decide (0 < n) = true := by simpa using hn0
            have EJ : Hid (joinS (fl p (i + 1)) = (sj ++ ⟨#[44]⟩) ++ itoa i) := by show _ = _; rw [EL.out.2, if_pos hn0]
            have EN : Hid ((fl p (i + 1)).length = n + 1) := EL.out.1
            clear EL
            rcases HCASE.out with q1 | ⟨q1, q2⟩
            all_goals
              clear HCASE
              go_wp2_with fail
              refine (itoa_calls i (by omega) (by omega) _).mono ?_
              rintro x w3 ⟨rfl, hc3⟩
              have HC3 : Hid (Chg [] w1 w3) := HC.out.trans hc3
              clear hc3 ce ce2
              go_wp2
              exact ⟨⟨i + 1, by omega, by simp, by rw [EN.out]; simp, by rw [EJ.out], HC3.out⟩, by simp [intOf]; omega⟩
          · have d1 : decide (0 < n) = false := by simpa using hn0
            have EJ : Hid (joinS (fl p (i + 1)) = sj ++ itoa i) := by show _ = _; rw [EL.out.2, if_neg hn0]
            have EN : Hid ((fl p (i + 1)).length = n + 1) := EL.out.1
            clear EL
            rcases HCASE.out with q1 | ⟨q1, q2⟩
            all_goals
              clear HCASE
              go_wp2_with fail
              refine (itoa_calls i (by omega) (by omega) _).mono ?_
              rintro x w3 ⟨rfl, hc3⟩
              have HC3 : Hid (Chg [] w1 w3) := HC.out.trans hc3
              clear hc3 ce ce2
              go_wp2
              exact ⟨⟨i + 1, by omega, by simp, by rw [EN.out]; simp, by rw [EJ.out], HC3.out⟩, by simp [intOf]; omega⟩
        | false =>
          rw [hpv] at hp
          have q1 : li < 0 := by simp at hp; omega
          have q2 : lj < 0 := by simp at hp; omega
          have EL : Hid (fl p (i + 1) = fl p i) := fl_no hpv
          clear hpv hp
          generalize hfl2 : fl p i = L at *
          clear hfl2
          generalize hn : L.length = n at *
          have HNN : Hid (L.length = n) := hn
          generalize hj : joinS L = sj at *
          have HJJ : Hid (joinS L = sj) := hj
          clear hn hj
          go_wp2
          exact ⟨⟨i + 1, by omega, by simp, by rw [EL.out, HNN.out], by rw [EL.out, HJJ.out], HC.out⟩, by simp [intOf]; omega⟩
      · obtain rfl : i = 4 := by omega
        clear hc
        generalize hn : (fl p 4).length = n at *
        generalize hj : joinS (fl p 4) = sj at *
        have HX : Hid ((fl p 4).length = n ∧ joinS (fl p 4) = sj) := ⟨hn, hj⟩
        clear hn hj
        go_wp2
        refine bodyPost_ret (results_tmp4 rfl _ _ _) rfl ?_
        rw [HPE.out, HX.out.1, HX.out.2]
        exact ⟨rfl, HM.out.1.chg HC.out (by simp), (HM.out.2.mono (by simp)).trans HC.out.any⟩
end Go.Proofs.Qxb6500374a.W
