import Derived.Test.Qxb6500374aMi
set_option linter.unusedVariables false
set_option linter.unusedSimpArgs false
namespace Go.Proofs.Qxb6500374a.W
open Go.RowKit Go.Maps

set_option maxHeartbeats 4000000 in
set_option maxRecDepth 4000 in
theorem mcut_calls {w : World} {pd pA pC : Nat} {lo hi : Int} {S : WS} (h : MdAt w pd pA pC lo hi S) (ho : S.ok) (a b : Int) :
    Calls Try.prog 65 #[pt pd, .int .i64 a, .int .i64 b] w fun x w' => x = .returned (.int .i64 (cutS S a b).1) ∧ MStp pd pA pC (cutS S a b).2 lo hi w w' := by
  have H : Hid (MdAt w pd pA pC lo hi S) := h
  have HO : Hid S.ok := ho
  have c0 : w.cell? ⟨pd, 0, none⟩ = some (.slice (some ⟨pA, 0, none⟩) 64 64) := cell_of h.row rfl
  cases ha : isN a with
  | false =>
    have e : cutS S a b = (1, S) := by rw [cutS, if_pos (Or.inl ha)]
    rw [e]
    have HN : Hid (isN a = false) := ha
    clear h ho e ha
    go_enter Try.func65, Try.ntmps65
    go_wp2_with fail
    refine (mnode_calls a w).mono ?_
    rintro x w2 ⟨rfl, hw2⟩
    obtain rfl : w = w2 := hw2.symm
    clear hw2
    rw [HN.out]
    go_wp2
    go_ret
    exact ⟨rfl, MStp.same H.out (Chg.refl _ _)⟩
  | true =>
    have HN : Hid (isN a = true) := ha
    cases hb : isN b with
    | false =>
      have e : cutS S a b = (1, S) := by rw [cutS, if_pos (Or.inr hb)]
      rw [e]
      have HNb : Hid (isN b = false) := hb
      clear h ho e ha hb
      go_enter Try.func65, Try.ntmps65
      go_wp2_with fail
      refine (mnode_calls a w).mono ?_
      rintro x w2 ⟨rfl, hw2⟩
      obtain rfl : w = w2 := hw2.symm
      clear hw2
      rw [HN.out]
      go_wp2_with fail
      refine (mnode_calls b w).mono ?_
      rintro x w2 ⟨rfl, hw2⟩
      obtain rfl : w = w2 := hw2.symm
      clear hw2
      rw [HNb.out]
      go_wp2
      go_ret
      exact ⟨rfl, MStp.same H.out (Chg.refl _ _)⟩
    | true =>
      have HNb : Hid (isN b = true) := hb
      obtain ⟨k, hk, rfl⟩ := isN_iff.1 ha
      obtain ⟨m, hm, rfl⟩ := isN_iff.1 hb
      have hun : cutS S k m = if m ∈ S.A k then (0, { S with A := updA S.A k ((S.A k).erase m) }) else (4, S) := by
        rw [cutS, if_neg (by simp [ha, hb])]
        simp
      have ce := h.adj.cell (i := k * 8 + m) (by omega)
      rw [eF_at _ hm] at ce
      have hfz := h.adj.froz (k * 8 + m)
      clear ha hb
      by_cases hmem : m ∈ S.A k
      · rw [hun, if_pos hmem]
        rw [show (S.A k).contains m = true by simpa using hmem] at ce
        clear h ho hun hmem
        go_enter Try.func65, Try.ntmps65
        go_wp2_with fail
        refine (mnode_calls k w).mono ?_
        rintro x w2 ⟨rfl, hw2⟩
        obtain rfl : w = w2 := hw2.symm
        clear hw2
        rw [HN.out]
        go_wp2_with fail
        refine (mnode_calls m w).mono ?_
        rintro x w2 ⟨rfl, hw2⟩
        obtain rfl : w = w2 := hw2.symm
        clear hw2
        rw [HNb.out]
        go_wp2
        go_ret
        refine ⟨rfl, H.out.setA hk hm ?_⟩
        intro c hc
        have hnd := HO.out.aok.one k
        by_cases e : c = m
        · subst e
          rw [if_pos rfl]
          simp [hnd.mem_erase_iff]
        · rw [if_neg e]
          simp [hnd.mem_erase_iff, e]
      · rw [hun, if_neg hmem]
        rw [show (S.A k).contains m = false by simpa using hmem] at ce
        clear h ho hun hmem
        go_enter Try.func65, Try.ntmps65
        go_wp2_with fail
        refine (mnode_calls k w).mono ?_
        rintro x w2 ⟨rfl, hw2⟩
        obtain rfl : w = w2 := hw2.symm
        clear hw2
        rw [HN.out]
        go_wp2_with fail
        refine (mnode_calls m w).mono ?_
        rintro x w2 ⟨rfl, hw2⟩
        obtain rfl : w = w2 := hw2.symm
        clear hw2
        rw [HNb.out]
        go_wp2
        go_ret
        exact ⟨rfl, MStp.same H.out (Chg.refl _ _)⟩

set_option maxHeartbeats 4000000 in
set_option maxRecDepth 4000 in
theorem mcount_calls {w : World} {pd pA pC : Nat} {lo hi : Int} {S : WS} (h : MdAt w pd pA pC lo hi S) (ho : S.ok) (a b : Int) :
    Calls Try.prog 69 #[pt pd, .int .i64 a, .int .i64 b] w fun x w' => x = .returned (.tuple #[.int .i64 (countS S a b).1, .int .i64 (countS S a b).2]) ∧ Chg [] w w' := by
  have H : Hid (MdAt w pd pA pC lo hi S) := h
  cases hr : isR a b with
  | false =>
    have e : countS S a b = (0, 5) := by simp [countS, hr]
    rw [e]
    have HR : Hid (isR a b = false) := hr
    clear h ho e hr
    go_enter Try.func69, Try.ntmps69
    go_wp2_with fail
    refine (isRate_calls a b w).mono ?_
    rintro x w2 ⟨rfl, hw2⟩
    obtain rfl : w = w2 := hw2.symm
    clear hw2
    rw [HR.out]
    go_wp2
    go_ret2
    exact ⟨rfl, Chg.refl _ _⟩
  | true =>
    have HR : Hid (isR a b = true) := hr
    obtain ⟨h', t, hab, hb4, rfl, rfl⟩ := isR_iff.1 hr
    rcases Nat.eq_zero_or_pos t with h0 | h0
    · have e : countS S h' t = (0, 0) := by rw [countS, if_pos hr, if_pos (by omega)]
      rw [e]
      have d : ((t : Int) == 0) = true := by simp [h0]
      clear h ho e hr h0
      go_enter Try.func69, Try.ntmps69
      go_wp2_with fail
      refine (isRate_calls h' t w).mono ?_
      rintro x w2 ⟨rfl, hw2⟩
      obtain rfl : w = w2 := hw2.symm
      clear hw2
      rw [HR.out]
      go_wp2
      go_ret2
      exact ⟨rfl, Chg.refl _ _⟩
    · have e : countS S h' t = (S.cn (rj h' t), 0) := by rw [countS, if_pos hr, if_neg (by omega)]; simp
      rw [e]
      have d : ((t : Int) == 0) = false := by simp; omega
      obtain ⟨⟨a1, _⟩, _⟩ := at_all t (by omega) h' (by omega) h0 hab
      have HCT : Hid (ct S.cn (atI h' t) = S.cn (rj h' t)) := ct_at _ hab hb4 h0
      clear h ho e hr
      go_enter Try.func69, Try.ntmps69
      go_wp2_with fail
      refine (isRate_calls h' t w).mono ?_
      rintro x w2 ⟨rfl, hw2⟩
      obtain rfl : w = w2 := hw2.symm
      clear hw2
      rw [HR.out]
      go_wp2_with fail
      refine (at_calls hab hb4 h0 w).mono ?_
      rintro x w2 ⟨rfl, hc⟩
      have h2 := H.out.chg hc (by simp)
      have HC : Hid (Chg [] w w2) := hc
      have c1 : w2.cell? ⟨pd, 1, none⟩ = some (.slice (some ⟨pC, 0, none⟩) 25 25) := cell_of h2.row rfl
      have ce := h2.cnt.cell a1
      rw [HCT.out] at ce
      clear h2 hc HCT
      generalize atI h' t = ix at *
      generalize hcc : S.cn (rj h' t) = cc at *
      have HCC : Hid (S.cn (rj h' t) = cc) := hcc
      clear hcc
      go_wp2
      go_ret2
      rw [HCC.out]
      exact ⟨rfl, HC.out⟩

set_option maxHeartbeats 4000000 in
set_option maxRecDepth 4000 in
theorem mdrop_calls {w : World} {pd pA pC : Nat} {lo hi : Int} {S : WS} (h : MdAt w pd pA pC lo hi S) (ho : S.ok) (hp : ∀ j, j < 7 → 0 ≤ S.cn j) (a b : Int) :
    Calls Try.prog 70 #[pt pd, .int .i64 a, .int .i64 b] w fun x w' => x = .returned (.tuple #[.int .i64 (dropS S a b).1, .int .i64 (dropS S a b).2.1]) ∧ MStp pd pA pC (dropS S a b).2.2 lo hi w w' := by
  have H : Hid (MdAt w pd pA pC lo hi S) := h
  cases hr : isR a b with
  | false =>
    have e : dropS S a b = (0, 5, S) := by simp [dropS, hr]
    rw [e]
    have HR : Hid (isR a b = false) := hr
    clear h ho e hr hp
    go_enter Try.func70, Try.ntmps70
    go_wp2_with fail
    refine (isRate_calls a b w).mono ?_
    rintro x w2 ⟨rfl, hw2⟩
    obtain rfl : w = w2 := hw2.symm
    clear hw2
    rw [HR.out]
    go_wp2
    go_ret2
    exact ⟨rfl, MStp.same H.out (Chg.refl _ _)⟩
  | true =>
    have HR : Hid (isR a b = true) := hr
    obtain ⟨h', t, hab, hb4, rfl, rfl⟩ := isR_iff.1 hr
    rcases Nat.eq_zero_or_pos t with h0 | h0
    · have e : dropS S h' t = (0, 0, S) := by rw [dropS, if_pos hr, if_pos (by omega)]
      rw [e]
      have d : ((t : Int) == 0) = true := by simp [h0]
      clear h ho e hr h0 hp
      go_enter Try.func70, Try.ntmps70
      go_wp2_with fail
      refine (isRate_calls h' t w).mono ?_
      rintro x w2 ⟨rfl, hw2⟩
      obtain rfl : w = w2 := hw2.symm
      clear hw2
      rw [HR.out]
      go_wp2
      go_ret2
      exact ⟨rfl, MStp.same H.out (Chg.refl _ _)⟩
    · have e : dropS S h' t = if 0 < S.cn (rj h' t) then (1, 0, { S with cn := upd S.cn (rj h' t) 0 }) else (0, 0, S) := by rw [dropS, if_pos hr, if_neg (by omega)]; simp
      have d : ((t : Int) == 0) = false := by simp; omega
      obtain ⟨⟨a1, _⟩, _⟩ := at_all t (by omega) h' (by omega) h0 hab
      have HCT : Hid (ct S.cn (atI h' t) = S.cn (rj h' t)) := ct_at _ hab hb4 h0
      have hpp := hp _ (rj_lt h' t)
      have H0 : Hid (0 < t) := h0
      by_cases hz : 0 < S.cn (rj h' t)
      · rw [e, if_pos hz]
        have d2 : (S.cn (rj h' t) == 0) = false := by simp; omega
        clear h ho e hr hp
        go_enter Try.func70, Try.ntmps70
        go_wp2_with fail
        refine (isRate_calls h' t w).mono ?_
        rintro x w2 ⟨rfl, hw2⟩
        obtain rfl : w = w2 := hw2.symm
        clear hw2
        rw [HR.out]
        go_wp2_with fail
        refine (at_calls hab hb4 h0 w).mono ?_
        rintro x w2 ⟨rfl, hc⟩
        have h2 := H.out.chg hc (by simp)
        have HC : Hid (Chg [] w w2) := hc
        have c1 : w2.cell? ⟨pd, 1, none⟩ = some (.slice (some ⟨pC, 0, none⟩) 25 25) := cell_of h2.row rfl
        have ce := h2.cnt.cell a1
        rw [HCT.out] at ce
        have hfz := h2.cnt.froz (atI h' t)
        have hst := h2.setC hab hb4 h0 0
        have HST : Hid (MStp pd pA pC { S with cn := upd S.cn (rj h' t) 0 } lo hi w (w2.setCell ⟨pC, atI h' t, none⟩ (.int .i64 0))) := ⟨hst.at_, hc.any.trans hst.chg⟩
        clear h2 hc HCT hst
        generalize atI h' t = ix at *
        generalize S.cn (rj h' t) = cc at *
        go_wp2
        go_ret2
        exact ⟨rfl, HST.out⟩
      · rw [e, if_neg hz]
        have d2 : (S.cn (rj h' t) == 0) = true := by simp; omega
        clear h ho e hr hp
        go_enter Try.func70, Try.ntmps70
        go_wp2_with fail
        refine (isRate_calls h' t w).mono ?_
        rintro x w2 ⟨rfl, hw2⟩
        obtain rfl : w = w2 := hw2.symm
        clear hw2
        rw [HR.out]
        go_wp2_with fail
        refine (at_calls hab hb4 h0 w).mono ?_
        rintro x w2 ⟨rfl, hc⟩
        have h2 := H.out.chg hc (by simp)
        have HC : Hid (Chg [] w w2) := hc
        have c1 : w2.cell? ⟨pd, 1, none⟩ = some (.slice (some ⟨pC, 0, none⟩) 25 25) := cell_of h2.row rfl
        have ce := h2.cnt.cell a1
        rw [HCT.out] at ce
        clear h2 hc HCT
        generalize atI h' t = ix at *
        generalize S.cn (rj h' t) = cc at *
        go_wp2
        go_ret2
        exact ⟨rfl, MStp.same H.out HC.out⟩

set_option maxHeartbeats 4000000 in
set_option maxRecDepth 4000 in
theorem mnote_calls {w : World} {pd pA pC : Nat} {lo hi : Int} {S : WS} (h : MdAt w pd pA pC lo hi S) (ho : S.ok) (hp : ∀ j, j < 7 → 0 ≤ S.cn j) (hcap : ∀ j, j < 7 → S.cn j < 4611686018427387904) (a b : Int) :
    Calls Try.prog 68 #[pt pd, .int .i64 a, .int .i64 b] w fun x w' => x = .returned (.int .i64 (noteS S a b).1) ∧ MStp pd pA pC (noteS S a b).2 lo hi w w' := by
  have H : Hid (MdAt w pd pA pC lo hi S) := h
  have HO : Hid S.ok := ho
  cases hr : isR a b with
  | false =>
    have e : noteS S a b = (5, S) := by simp [noteS, hr]
    rw [e]
    have HR : Hid (isR a b = false) := hr
    clear h ho e hr hp hcap
    go_enter Try.func68, Try.ntmps68
    go_wp2_with fail
    refine (isRate_calls a b w).mono ?_
    rintro x w2 ⟨rfl, hw2⟩
    obtain rfl : w = w2 := hw2.symm
    clear hw2
    rw [HR.out]
    go_wp2
    go_ret
    exact ⟨rfl, MStp.same H.out (Chg.refl _ _)⟩
  | true =>
    have HR : Hid (isR a b = true) := hr
    obtain ⟨h', t, hab, hb4, rfl, rfl⟩ := isR_iff.1 hr
    have hsm := ho.small
    have hsz : sizeS S = ((nums S.cn + S.nn : Nat) : Int) := rfl
    rcases Nat.eq_zero_or_pos t with h0 | h0
    · have e : noteS S h' t = if 10 ≤ nums S.cn + S.nn then (3, S) else (0, { S with nn := S.nn + 1 }) := by rw [noteS, if_pos hr, if_pos (by omega)]
      have d : ((t : Int) == 0) = true := by simp [h0]
      have c2 : w.cell? ⟨pd, 2, none⟩ = some (.int .i64 S.nn) := cell_of h.row rfl
      have f2 : w.frozen? ⟨pd, 2, none⟩ = false := frozen_of h.row
      by_cases hf : 10 ≤ nums S.cn + S.nn
      · rw [e, if_pos hf]
        have d2 : 10 ≤ sizeS S := by omega
        clear h ho e hr h0 hp hcap hf hsz
        go_enter Try.func68, Try.ntmps68
        go_wp2_with fail
        refine (isRate_calls h' t w).mono ?_
        rintro x w2 ⟨rfl, hw2⟩
        obtain rfl : w = w2 := hw2.symm
        clear hw2
        rw [HR.out]
        go_wp2_with fail
        refine (msize_calls H.out HO.out).mono ?_
        rintro x w2 ⟨rfl, hw2⟩
        obtain rfl : w = w2 := hw2.symm
        clear hw2
        generalize sizeS S = z at *
        go_wp2
        go_ret
        exact ⟨rfl, MStp.same H.out (Chg.refl _ _)⟩
      · rw [e, if_neg hf]
        have d2 : sizeS S < 10 := by omega
        have hnn : S.nn < 10 := by omega
        have HST : Hid (∀ x : Int, x = ((S.nn + 1 : Nat) : Int) → MStp pd pA pC { S with nn := S.nn + 1 } lo hi w (w.setCell ⟨pd, 2, none⟩ (.int .i64 x))) := fun x hx => H.out.setN (S.nn + 1) hx
        clear h ho e hr h0 hp hcap hf hsz
        go_enter Try.func68, Try.ntmps68
        go_wp2_with fail
        refine (isRate_calls h' t w).mono ?_
        rintro x w2 ⟨rfl, hw2⟩
        obtain rfl : w = w2 := hw2.symm
        clear hw2
        rw [HR.out]
        go_wp2_with fail
        refine (msize_calls H.out HO.out).mono ?_
        rintro x w2 ⟨rfl, hw2⟩
        obtain rfl : w = w2 := hw2.symm
        clear hw2
        generalize sizeS S = z at *
        go_wp2
        go_ret
        exact ⟨rfl, HST.out _ (by omega)⟩
    · have e : noteS S h' t = if S.cn (rj h' t) = 0 ∧ 10 ≤ nums S.cn + S.nn then (3, S) else (0, { S with cn := upd S.cn (rj h' t) (S.cn (rj h' t) + 1) }) := by rw [noteS, if_pos hr, if_neg (by omega)]; simp
      have d : ((t : Int) == 0) = false := by simp; omega
      obtain ⟨⟨a1, _⟩, _⟩ := at_all t (by omega) h' (by omega) h0 hab
      have HCT : Hid (ct S.cn (atI h' t) = S.cn (rj h' t)) := ct_at _ hab hb4 h0
      have hpp := hp _ (rj_lt h' t)
      have hcp := hcap _ (rj_lt h' t)
      have HAT : Hid (∀ W : World, Calls Try.prog 78 #[.int .i64 h', .int .i64 t] W fun e w' => e = .returned (.int .i64 (atI h' t)) ∧ Chg [] W w') := fun W => at_calls hab hb4 h0 W
      have HSC : Hid (∀ w2, Chg [] w w2 → MStp pd pA pC { S with cn := upd S.cn (rj h' t) (S.cn (rj h' t) + 1) } lo hi w (w2.setCell ⟨pC, atI h' t, none⟩ (.int .i64 (S.cn (rj h' t) + 1)))) := fun w2 hc => by
        have hst := (H.out.chg hc (by simp)).setC hab hb4 h0 (S.cn (rj h' t) + 1)
        exact ⟨hst.at_, hc.any.trans hst.chg⟩
      by_cases hz : S.cn (rj h' t) = 0 ∧ 10 ≤ nums S.cn + S.nn
      · rw [e, if_pos hz]
        have d2 : (S.cn (rj h' t) == 0) = true := by simp [hz.1]
        have d3 : 10 ≤ sizeS S := by omega
        clear h ho e hr hp hcap hz hsz hsm
        go_enter Try.func68, Try.ntmps68
        go_wp2_with fail
        refine (isRate_calls h' t w).mono ?_
        rintro x w2 ⟨rfl, hw2⟩
        obtain rfl : w = w2 := hw2.symm
        clear hw2
        rw [HR.out]
        go_wp2_with fail
        refine (msize_calls H.out HO.out).mono ?_
        rintro x w2 ⟨rfl, hw2⟩
        obtain rfl : w = w2 := hw2.symm
        clear hw2
        go_wp2_with fail
        refine (HAT.out w).mono ?_
        rintro x w2 ⟨rfl, hc⟩
        have h2 := H.out.chg hc (by simp)
        have HC : Hid (Chg [] w w2) := hc
        have c1 : w2.cell? ⟨pd, 1, none⟩ = some (.slice (some ⟨pC, 0, none⟩) 25 25) := cell_of h2.row rfl
        have ce := h2.cnt.cell a1
        rw [HCT.out] at ce
        clear h2 hc HCT HSC HAT
        generalize atI h' t = ix at *
        generalize S.cn (rj h' t) = cc at *
        generalize sizeS S = z at *
        go_wp2
        go_ret
        exact ⟨rfl, MStp.same H.out HC.out⟩
      · rw [e, if_neg hz]
        have HD : Hid ((S.cn (rj h' t) == 0) = false ∨ (S.cn (rj h' t) == 0) = true ∧ sizeS S < 10) := by
          show _ ∨ _
          by_cases h00 : S.cn (rj h' t) = 0
          · right
            refine ⟨by simp [h00], ?_⟩
            by_cases h10 : 10 ≤ nums S.cn + S.nn
            · exact absurd ⟨h00, h10⟩ hz
            · omega
          · left
            simpa using h00
        clear h ho e hr hp hcap hz hsz hsm
        go_enter Try.func68, Try.ntmps68
        go_wp2_with fail
        refine (isRate_calls h' t w).mono ?_
        rintro x w2 ⟨rfl, hw2⟩
        obtain rfl : w = w2 := hw2.symm
        clear hw2
        rw [HR.out]
        go_wp2_with fail
        refine (msize_calls H.out HO.out).mono ?_
        rintro x w2 ⟨rfl, hw2⟩
        obtain rfl : w = w2 := hw2.symm
        clear hw2
        go_wp2_with fail
        refine (HAT.out w).mono ?_
        rintro x w2 ⟨rfl, hc⟩
        have h2 := H.out.chg hc (by simp)
        have HST : Hid (MStp pd pA pC { S with cn := upd S.cn (rj h' t) (S.cn (rj h' t) + 1) } lo hi w (w2.setCell ⟨pC, atI h' t, none⟩ (.int .i64 (S.cn (rj h' t) + 1)))) := HSC.out w2 hc
        have c1 : w2.cell? ⟨pd, 1, none⟩ = some (.slice (some ⟨pC, 0, none⟩) 25 25) := cell_of h2.row rfl
        have ce := h2.cnt.cell a1
        rw [HCT.out] at ce
        have hfz := h2.cnt.froz (atI h' t)
        clear h2 hc HCT HSC HAT
        rcases HD.out with d2 | ⟨d2, d3⟩
        · clear HD
          generalize atI h' t = ix at *
          generalize hcc : S.cn (rj h' t) = cc at *
          have HCC : Hid (S.cn (rj h' t) = cc) := hcc
          clear hcc
          generalize sizeS S = z at *
          go_wp2
          go_ret
          rw [HCC.out]
          exact ⟨rfl, HST.out⟩
        · clear HD
          generalize atI h' t = ix at *
          generalize hcc : S.cn (rj h' t) = cc at *
          have HCC : Hid (S.cn (rj h' t) = cc) := hcc
          clear hcc
          generalize sizeS S = z at *
          go_wp2
          go_ret
          rw [HCC.out]
          exact ⟨rfl, HST.out⟩
end Go.Proofs.Qxb6500374a.W
