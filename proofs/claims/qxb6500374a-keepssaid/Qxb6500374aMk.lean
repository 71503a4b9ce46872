import Derived.Test.Qxb6500374aMj
set_option linter.unusedVariables false
set_option linter.unusedSimpArgs false
namespace Go.Proofs.Qxb6500374a.W
open Go.RowKit Go.Maps

theorem MdAt.cnt' {w w' : World} {pd pA pC : Nat} {lo hi : Int} {S : WS} (h : MdAt w pd pA pC lo hi S) {cn : Nat → Int} (hg : IGrid w' pC 25 (ct cn)) (hc : Chg [pC] w w') : MdAt w' pd pA pC lo hi { S with cn := cn } :=
  ⟨hc.keep h.row (by simp; exact h.ap2), h.adj.chg hc (by simp; exact h.ap3), hg, h.ap1, h.ap2, h.ap3⟩

set_option maxHeartbeats 4000000 in
set_option maxRecDepth 4000 in
theorem mwipe_calls {w : World} {pd pA pC : Nat} {lo hi : Int} {S : WS} (h : MdAt w pd pA pC lo hi S) (ho : S.ok) :
    Calls Try.prog 73 #[pt pd] w fun x w' => x = .returned (.int .i64 (sizeS S)) ∧ MStp pd pA pC (wipeS S) lo hi w w' := by
  have H : Hid (MdAt w pd pA pC lo hi S) := h
  have HO : Hid S.ok := ho
  clear h ho
  go_enter Try.func73, Try.ntmps73
  go_wp2_with fail
  refine (msize_calls H.out HO.out).mono ?_
  rintro x w2 ⟨rfl, hw2⟩
  obtain rfl : w = w2 := hw2.symm
  clear hw2
  go_wp2_with fail
  go_loopw [4] (fun v4 wr => ∃ i : Nat, i ≤ 25 ∧ v4 = .int .i64 i ∧ IGrid wr pC 25 (fun k => if k < i then 0 else ct S.cn k) ∧ Chg [pC] w wr) (fun v4 _ => (25 - intOf v4).toNat)
  case atStart => exact ⟨0, by omega, rfl, H.out.cnt.congr (by simp), Chg.refl _ _⟩
  case round =>
    obtain ⟨i, hi25, rfl, hg, hc⟩ := hrel
    rename World => wI
    have HG : Hid (IGrid wI pC 25 (fun k => if k < i then 0 else ct S.cn k) ∧ Chg [pC] w wI) := ⟨hg, hc⟩
    have hrow := hc.keep H.out.row (by simp; exact H.out.ap2)
    by_cases h25 : i < 25
    · have c1 : wI.cell? ⟨pd, 1, none⟩ = some (.slice (some ⟨pC, 0, none⟩) 25 25) := cell_of hrow rfl
      have ce := hg.cell h25
      have hfz := hg.froz i
      have HN : Hid (IGrid (wI.setCell ⟨pC, i, none⟩ (.int .i64 0)) pC 25 (fun k => if k < i + 1 then 0 else ct S.cn k) ∧ Chg [pC] w (wI.setCell ⟨pC, i, none⟩ (.int .i64 0))) := by
        refine ⟨(hg.set h25 0).congr (fun k hk => ?_), hc.setCell (Or.inl (by simp)) _⟩
        unfold updf
        by_cases e : k = i
        · subst e; simp
        · rw [if_neg e]
          show (if k < i then (0 : Int) else ct S.cn k) = _
          by_cases hki : k < i
          · rw [if_pos hki, if_pos (by omega)]
          · rw [if_neg hki, if_neg (by omega)]
      clear hg hc hrow
      simp only [Nat.lt_irrefl, if_false] at ce
      generalize ct S.cn i = xx at *
      go_wp2
      exact ⟨⟨i + 1, by omega, by simp, HN.out.1, HN.out.2⟩, by simp [intOf]; omega⟩
    · obtain rfl : i = 25 := by omega
      have c2 : wI.cell? ⟨pd, 2, none⟩ = some (.int .i64 S.nn) := cell_of hrow rfl
      have f2 : wI.frozen? ⟨pd, 2, none⟩ = false := frozen_of hrow
      have HF : Hid (MStp pd pA pC (wipeS S) lo hi w (wI.setCell ⟨pd, 2, none⟩ (.int .i64 0))) := by
        have h1 : MdAt wI pd pA pC lo hi { S with cn := fun _ => 0 } := H.out.cnt' (hg.congr (fun k hk => by simp [hk, ct])) hc
        have h2 := h1.setN 0 (x := 0) rfl
        exact ⟨h2.at_, (hc.mono (by simp)).trans h2.chg⟩
      clear hg hc hrow
      go_wp2
      go_ret
      exact ⟨rfl, HF.out⟩

def q1 (m x : Int) : Nat := if 0 < x ∧ x < m then 1 else 0
def qc (m : Int) (f : Nat → Int) : Nat → Nat
  | 0 => 0
  | i + 1 => qc m f i + q1 m (f i)
theorem qc_le (m : Int) (f : Nat → Int) : ∀ i, qc m f i ≤ i
  | 0 => by simp [qc]
  | i + 1 => by have := qc_le m f i; rw [qc]; unfold q1; split <;> omega
theorem q1_one (cn : Nat → Int) (m : Int) {j : Nat} (hj : j < 7) (h : 0 ≤ cn j) : one1 (pruneC cn m j) + q1 m (cn j) = one1 (cn j) := by
  unfold pruneC q1 one1
  by_cases h1 : cn j < m
  · by_cases h2 : 0 < cn j
    · simp [hj, h1, h2]
    · have : cn j = 0 := by omega
      simp [this]
  · simp [h1]
theorem qc_ct (S : WS) (m : Int) (hp : ∀ j, j < 7 → 0 ≤ S.cn j) : ((qc m (ct S.cn) 25 : Nat) : Int) = sizeS S - sizeS (pruneS S m) := by
  obtain ⟨h0, h1, h2, h3, h4, h5, h6, h7, h8, h9, h10, h11, h12, h13, h14, h15, h16, h17, h18, h19, h20, h21, h22, h23, h24⟩ := ct_list S.cn
  have z : q1 m 0 = 0 := by simp [q1]
  have e : qc m (ct S.cn) 25 = q1 m (S.cn 0) + q1 m (S.cn 1) + q1 m (S.cn 2) + q1 m (S.cn 3) + q1 m (S.cn 4) + q1 m (S.cn 5) + q1 m (S.cn 6) := by
    simp only [qc, h0, h1, h2, h3, h4, h5, h6, h7, h8, h9, h10, h11, h12, h13, h14, h15, h16, h17, h18, h19, h20, h21, h22, h23, h24, z]
    omega
  have g0 := q1_one S.cn m (j := 0) (by omega) (hp 0 (by omega))
  have g1 := q1_one S.cn m (j := 1) (by omega) (hp 1 (by omega))
  have g2 := q1_one S.cn m (j := 2) (by omega) (hp 2 (by omega))
  have g3 := q1_one S.cn m (j := 3) (by omega) (hp 3 (by omega))
  have g4 := q1_one S.cn m (j := 4) (by omega) (hp 4 (by omega))
  have g5 := q1_one S.cn m (j := 5) (by omega) (hp 5 (by omega))
  have g6 := q1_one S.cn m (j := 6) (by omega) (hp 6 (by omega))
  rw [e]
  unfold sizeS pruneS nums
  simp only
  omega
def pg (m : Int) (f : Nat → Int) (i k : Nat) : Int := if k < i ∧ 0 < f k ∧ f k < m then 0 else f k
theorem pg_end (cn : Nat → Int) (m : Int) (hp : ∀ j, j < 7 → 0 ≤ cn j) (k : Nat) (hk : k < 25) : pg m (ct cn) 25 k = ct (pruneC cn m) k := by
  unfold pg ct
  by_cases hl : lowI k = true
  · have hj := rj_lt (k % 5) (k / 5)
    have := hp _ hj
    simp only [hl, if_true, hk, true_and, pruneC, hj]
    by_cases h1 : cn (rj (k % 5) (k / 5)) < m
    · by_cases h2 : 0 < cn (rj (k % 5) (k / 5))
      · simp [h1, h2]
      · have : cn (rj (k % 5) (k / 5)) = 0 := by omega
        simp [h1, h2, this]
    · simp [h1]
  · simp [hl]

set_option maxHeartbeats 4000000 in
set_option maxRecDepth 4000 in
theorem mprune_calls {w : World} {pd pA pC : Nat} {lo hi : Int} {S : WS} (h : MdAt w pd pA pC lo hi S) (hp : ∀ j, j < 7 → 0 ≤ S.cn j) (m : Int) :
    Calls Try.prog 74 #[pt pd, .int .i64 m] w fun x w' => x = .returned (.int .i64 (sizeS S - sizeS (pruneS S m))) ∧ MStp pd pA pC (pruneS S m) lo hi w w' := by
  have H : Hid (MdAt w pd pA pC lo hi S) := h
  have HP : Hid (∀ j, j < 7 → 0 ≤ S.cn j) := hp
  clear h hp
  go_enter Try.func74, Try.ntmps74
  go_wp2_with fail
  go_loopw [5, 6] (fun v5 v6 wr => ∃ i : Nat, i ≤ 25 ∧ v6 = .int .i64 i ∧ v5 = .int .i64 (qc m (ct S.cn) i : Nat) ∧ IGrid wr pC 25 (pg m (ct S.cn) i) ∧ Chg [pC] w wr) (fun _ v6 _ => (25 - intOf v6).toNat)
  case atStart => exact ⟨0, by omega, rfl, rfl, H.out.cnt.congr (by simp [pg]), Chg.refl _ _⟩
  case round =>
    obtain ⟨i, hi25, rfl, rfl, hg, hc⟩ := hrel
    rename World => wI
    have HG : Hid (IGrid wI pC 25 (pg m (ct S.cn) i) ∧ Chg [pC] w wI) := ⟨hg, hc⟩
    have hrow := hc.keep H.out.row (by simp; exact H.out.ap2)
    have hql := qc_le m (ct S.cn) i
    by_cases h25 : i < 25
    · have c1 : wI.cell? ⟨pd, 1, none⟩ = some (.slice (some ⟨pC, 0, none⟩) 25 25) := cell_of hrow rfl
      have ce := hg.cell h25
      have ee : pg m (ct S.cn) i i = ct S.cn i := by simp [pg]
      rw [ee] at ce
      have hfz := hg.froz i
      have HQ : Hid (qc m (ct S.cn) (i + 1) = qc m (ct S.cn) i + q1 m (ct S.cn i)) := rfl
      have hgo : 0 < ct S.cn i → ct S.cn i < m → IGrid (wI.setCell ⟨pC, i, none⟩ (.int .i64 0)) pC 25 (pg m (ct S.cn) (i + 1)) ∧ Chg [pC] w (wI.setCell ⟨pC, i, none⟩ (.int .i64 0)) := by
        intro h1 h2
        refine ⟨(hg.set h25 0).congr (fun k hk => ?_), hc.setCell (Or.inl (by simp)) _⟩
        unfold updf pg
        by_cases e : k = i
        · subst e; simp [h1, h2]
        · rw [if_neg e]
          by_cases hki : k < i
          · simp [hki, show k < i + 1 by omega]
          · simp [hki, show ¬ k < i + 1 by omega]
      have hstay : ¬ (0 < ct S.cn i ∧ ct S.cn i < m) → IGrid wI pC 25 (pg m (ct S.cn) (i + 1)) := by
        intro hn
        refine hg.congr (fun k hk => ?_)
        unfold pg
        by_cases e : k = i
        · subst e
          rw [if_neg (by omega), if_neg (fun hx => hn hx.2)]
        · by_cases hki : k < i
          · simp [hki, show k < i + 1 by omega]
          · simp [hki, show ¬ k < i + 1 by omega]
      have HGO : Hid (0 < ct S.cn i → ct S.cn i < m → IGrid (wI.setCell ⟨pC, i, none⟩ (.int .i64 0)) pC 25 (pg m (ct S.cn) (i + 1)) ∧ Chg [pC] w (wI.setCell ⟨pC, i, none⟩ (.int .i64 0))) := hgo
      have HSTAY : Hid (¬ (0 < ct S.cn i ∧ ct S.cn i < m) → IGrid wI pC 25 (pg m (ct S.cn) (i + 1))) := hstay
      clear hg hc hrow ee hgo hstay
      generalize qc m (ct S.cn) i = q at *
      generalize ct S.cn i = xx at *
      by_cases h1 : 0 < xx
      · have d1 : decide (0 < xx) = true := by simpa using h1
        by_cases h2 : xx < m
        · have d2 : decide (xx < m) = true := by simpa using h2
          go_wp2
          exact ⟨⟨i + 1, by omega, by simp, by rw [HQ.out]; simp [q1, h1, h2], (HGO.out h1 h2).1, (HGO.out h1 h2).2⟩, by simp [intOf]; omega⟩
        · have d2 : decide (xx < m) = false := by simpa using h2
          go_wp2
          exact ⟨⟨i + 1, by omega, by simp, by rw [HQ.out]; simp [q1, h2], HSTAY.out (fun hx => h2 hx.2), HG.out.2⟩, by simp [intOf]; omega⟩
      · have d1 : decide (0 < xx) = false := by simpa using h1
        go_wp2
        exact ⟨⟨i + 1, by omega, by simp, by rw [HQ.out]; simp [q1, h1], HSTAY.out (fun hx => h1 hx.1), HG.out.2⟩, by simp [intOf]; omega⟩
    · obtain rfl : i = 25 := by omega
      have HF : Hid (MStp pd pA pC (pruneS S m) lo hi w wI) := ⟨H.out.cnt' (hg.congr (fun k hk => pg_end S.cn m HP.out k hk)) hc, hc.mono (by simp)⟩
      have HQ : Hid ((qc m (ct S.cn) 25 : Int) = sizeS S - sizeS (pruneS S m)) := qc_ct S m HP.out
      clear hg hc hrow
      generalize qc m (ct S.cn) 25 = q at *
      go_wp2
      go_ret
      exact ⟨by rw [← HQ.out]; rfl, HF.out⟩

theorem it1_app (s : ByteArray) (a b : Nat) : s ++ it1 a b = (((s ++ ⟨#[32]⟩) ++ itoa a) ++ ⟨#[62]⟩) ++ itoa b := by
  simp only [it1, ByteArray.append_assoc]
theorem it2_app (s : ByteArray) (h t : Nat) (c : Int) : s ++ it2 h t c = (((((s ++ ⟨#[32]⟩) ++ itoa h) ++ ⟨#[47]⟩) ++ itoa t) ++ ⟨#[58]⟩) ++ itoa c := by
  simp only [it2, ByteArray.append_assoc]
theorem ct_th (cn : Nat → Int) {h t : Nat} (h1 : h ≤ t) (h2 : t ≤ 4) (h0 : 1 ≤ t) : ct cn (t * 5 + h) = if low h t = true then cn (rj h t) else 0 := by
  unfold ct lowI
  rw [show (t * 5 + h) / 5 = t by omega, show (t * 5 + h) % 5 = h by omega]
  simp [h0, h1]

set_option maxHeartbeats 8000000 in
set_option maxRecDepth 4000 in
theorem mshow_calls {w : World} {pd pA pC : Nat} {lo hi : Int} {S : WS} (h : MdAt w pd pA pC lo hi S) (ho : S.ok) (hp : ∀ j, j < 7 → 0 ≤ S.cn j) (hcap : ∀ j, j < 7 → S.cn j < 4611686018427387904) :
    Calls Try.prog 60 #[pt pd] w fun x w' => x = .returned (.string (showS S)) ∧ Chg [] w w' := by
  have H : Hid (MdAt w pd pA pC lo hi S) := h
  have HO : Hid S.ok := ho
  have HCAP : Hid (∀ j, j < 7 → 0 ≤ S.cn j ∧ S.cn j < 4611686018427387904) := fun j hj => ⟨hp j hj, hcap j hj⟩
  clear h ho hcap hp
  go_enter Try.func60, Try.ntmps60
  go_wp2_with fail
  go_loopw [3, 4, 5, 6, 7] (fun v3 v4 _ _ _ wr => ∃ a : Nat, a ≤ 8 ∧ v4 = .int .i64 a ∧ v3 = .string (gS S.A a) ∧ Chg [] w wr) (fun _ v4 _ _ _ _ => (8 - intOf v4).toNat)
  case atStart => exact ⟨0, by omega, rfl, rfl, Chg.refl _ _⟩
  case round =>
    obtain ⟨a, ha, rfl, rfl, hc⟩ := hrel
    rename World => wO
    have HC : Hid (Chg [] w wO) := hc
    clear hc
    by_cases ha8 : a < 8
    · have hsz := gS_size S.A a
      have HG : Hid (gS S.A (a + 1) = gL a ((List.range 8).filter fun b => (S.A a).contains b) (gS S.A a)) := rfl
      have d0 : decide ((a : Int) < 8) = true := by simp; omega
      generalize gS S.A a = sa at *
      go_wp2_with fail
      go_loopw [3, 5, 6, 7] (fun v3 v5 _ _ wr => ∃ b : Nat, b ≤ 8 ∧ v5 = .int .i64 b ∧ v3 = .string (gL a ((List.range b).filter fun b => (S.A a).contains b) sa) ∧ Chg [] w wr) (fun _ v5 _ _ _ => (8 - intOf v5).toNat)
      case atStart => exact ⟨0, by omega, rfl, rfl, HC.out⟩
      case round =>
        obtain ⟨b, hb, rfl, rfl, hc⟩ := hrel
        rename World => wI
        have HCI : Hid (Chg [] w wI) := hc
        have hW := H.out.chg hc (by simp)
        by_cases hb8 : b < 8
        · have c0 : wI.cell? ⟨pd, 0, none⟩ = some (.slice (some ⟨pA, 0, none⟩) 64 64) := cell_of hW.row rfl
          have ce := hW.adj.cell (i := a * 8 + b) (by omega)
          rw [eF_at _ hb8] at ce
          have hstep := gL_step a (fun b => (S.A a).contains b) b sa
          have hszL := gL_size a ((List.range b).filter fun b => (S.A a).contains b) sa
          have hszR : ((List.range b).filter fun b => (S.A a).contains b).length ≤ 8 := by
            have := List.length_filter_le (fun b => (S.A a).contains b) (List.range b)
            rw [List.length_range] at this
            omega
          clear hc hW
          cases hcv : (S.A a).contains b with
          | true =>
            rw [hcv] at ce
            have E : Hid (gL a ((List.range (b + 1)).filter fun b => (S.A a).contains b) sa = (((gL a ((List.range b).filter fun b => (S.A a).contains b) sa ++ ⟨#[32]⟩) ++ itoa a) ++ ⟨#[62]⟩) ++ itoa b) := by
              show _ = _
              rw [hstep, if_pos hcv, it1_app]
            have s1 := itoa_size a
            have s2 := itoa_size b
            clear hstep
            generalize gL a ((List.range b).filter fun b => (S.A a).contains b) sa = sj at *
            go_wp2_with fail
            refine (itoa_calls a (by omega) (by omega) _).mono ?_
            rintro x w3 ⟨rfl, hc3⟩
            have HC4 : Hid (Chg [] w w3) := HCI.out.trans hc3
            clear hc3 ce c0
            go_wp2_with fail
            refine (itoa_calls b (by omega) (by omega) _).mono ?_
            rintro x w4 ⟨rfl, hc4⟩
            have HC5 : Hid (Chg [] w w4) := HC4.out.trans hc4
            clear hc4
            go_wp2
            exact ⟨⟨b + 1, by omega, by simp, by rw [E.out], HC5.out⟩, by simp [intOf]; omega⟩
          | false =>
            rw [hcv] at ce
            have E : Hid (gL a ((List.range (b + 1)).filter fun b => (S.A a).contains b) sa = gL a ((List.range b).filter fun b => (S.A a).contains b) sa) := by
              show _ = _
              rw [hstep, if_neg (by rw [hcv]; simp)]
            clear hstep
            generalize gL a ((List.range b).filter fun b => (S.A a).contains b) sa = sj at *
            go_wp2
            exact ⟨⟨b + 1, by omega, by simp, by rw [E.out], HCI.out⟩, by simp [intOf]; omega⟩
        · obtain rfl : b = 8 := by omega
          clear hc hW
          go_wp2
          exact ⟨⟨a + 1, by omega, by simp, by rw [HG.out], HCI.out⟩, by simp [intOf]; omega⟩
    · obtain rfl : a = 8 := by omega
      have hsz := gS_size S.A 8
      have HSH : Hid (showS S = (hQ S.cn (gS S.A 8 ++ ⟨#[59, 32, 104]⟩) 5 ++ ⟨#[59, 32, 110, 97, 110, 61]⟩) ++ itoa S.nn) := rfl
      generalize gS S.A 8 = s8 at *
      have hs0 : (s8 ++ ⟨#[59, 32, 104]⟩ : ByteArray).size ≤ 3000 := by
        have e3 : (⟨#[59, 32, 104]⟩ : ByteArray).size = 3 := rfl
        simp only [ByteArray.size_append, e3]
        omega
      have HH1 : Hid (hQ S.cn (s8 ++ ⟨#[59, 32, 104]⟩) 1 = s8 ++ ⟨#[59, 32, 104]⟩) := hQ_one _ _
      go_wp2_with fail
      generalize hs0e : (s8 ++ ⟨#[59, 32, 104]⟩ : ByteArray) = s0 at *
      clear hs0e hsz
      go_loopw [3, 8, 9, 10, 11, 12] (fun v3 v8 _ _ _ _ wr => ∃ t : Nat, 1 ≤ t ∧ t ≤ 5 ∧ v8 = .int .i64 t ∧ v3 = .string (hQ S.cn s0 t) ∧ Chg [] w wr) (fun _ v8 _ _ _ _ _ => (6 - intOf v8).toNat)
      case atStart => exact ⟨1, by omega, by omega, rfl, by rw [HH1.out], HC.out⟩
      case round =>
        obtain ⟨t, ht1, ht5, rfl, rfl, hc⟩ := hrel
        rename World => wT
        have HCT : Hid (Chg [] w wT) := hc
        clear hc
        by_cases ht4 : t ≤ 4
        · have hsz := hQ_size S.cn s0 t
          have htt : t * t ≤ 16 := Nat.mul_le_mul ht4 ht4
          have d0 : decide ((t : Int) < 5) = true := by simp; omega
          have HST : Hid (hQ S.cn s0 (t + 1) = hL S.cn t ((List.range (t + 1)).filter (hP S.cn t)) (hQ S.cn s0 t)) := rfl
          generalize hQ S.cn s0 t = st at *
          go_wp2_with fail
          go_loopw [3, 9, 10, 11, 12] (fun v3 v9 _ _ _ wr => ∃ hh : Nat, hh ≤ t + 1 ∧ v9 = .int .i64 hh ∧ v3 = .string (hL S.cn t ((List.range hh).filter (hP S.cn t)) st) ∧ Chg [] w wr) (fun _ v9 _ _ _ _ => (6 - intOf v9).toNat)
          case atStart => exact ⟨0, by omega, rfl, rfl, HCT.out⟩
          case round =>
            obtain ⟨hh, hht, rfl, rfl, hc⟩ := hrel
            rename World => wH
            have HCH : Hid (Chg [] w wH) := hc
            have hW := H.out.chg hc (by simp)
            by_cases hle : hh ≤ t
            · have c1 : wH.cell? ⟨pd, 1, none⟩ = some (.slice (some ⟨pC, 0, none⟩) 25 25) := cell_of hW.row rfl
              have ce := hW.cnt.cell (i := t * 5 + hh) (by omega)
              rw [ct_th _ hle ht4 ht1] at ce
              have hbd := HCAP.out _ (rj_lt hh t)
              have hstep := hL_step S.cn t (hP S.cn t) hh st
              have hszL := hL_size S.cn t ((List.range hh).filter (hP S.cn t)) st
              have hszR : ((List.range hh).filter (hP S.cn t)).length ≤ 5 := by
                have := List.length_filter_le (hP S.cn t) (List.range hh)
                simp at this
                omega
              have HW : Hid (∀ w2, Chg [] wH w2 → w2.cell? ⟨pd, 1, none⟩ = some (.slice (some ⟨pC, 0, none⟩) 25 25) ∧ w2.cell? ⟨pC, t * 5 + hh, none⟩ = some (.int .i64 (if low hh t = true then S.cn (rj hh t) else 0))) := fun w2 h2 => by
                have h3 := H.out.chg (HCH.out.trans h2) (by simp)
                refine ⟨cell_of h3.row rfl, ?_⟩
                have := h3.cnt.cell (i := t * 5 + hh) (by omega)
                rw [ct_th _ hle ht4 ht1] at this
                exact this
              clear hc hW
              cases hpv : hP S.cn t hh with
              | true =>
                have hpv' := hpv
                unfold hP at hpv'
                simp only [Bool.and_eq_true, decide_eq_true_eq] at hpv'
                obtain ⟨hl1, hpos⟩ := hpv'
                have E : Hid (hL S.cn t ((List.range (hh + 1)).filter (hP S.cn t)) st = (((((hL S.cn t ((List.range hh).filter (hP S.cn t)) st ++ ⟨#[32]⟩) ++ itoa hh) ++ ⟨#[47]⟩) ++ itoa t) ++ ⟨#[58]⟩) ++ itoa (S.cn (rj hh t))) := by
                  show _ = _
                  rw [hstep, if_pos hpv, it2_app]
                rw [if_pos hl1] at ce
                have HW2 : Hid (∀ w2, Chg [] wH w2 → w2.cell? ⟨pd, 1, none⟩ = some (.slice (some ⟨pC, 0, none⟩) 25 25) ∧ w2.cell? ⟨pC, t * 5 + hh, none⟩ = some (.int .i64 (S.cn (rj hh t)))) := fun w2 h2 => by
                  have := HW.out w2 h2
                  rw [if_pos hl1] at this
                  exact this
                have s1 := itoa_size hh
                have s2 := itoa_size t
                have s3 := itoa_size (S.cn (rj hh t))
                obtain ⟨hb0, hb1⟩ := hbd
                have d1 : decide (0 < S.cn (rj hh t)) = true := by simpa using hpos
                clear hstep hpv HW hl1
                generalize hL S.cn t ((List.range hh).filter (hP S.cn t)) st = sh at *
                generalize S.cn (rj hh t) = cc at *
                go_wp2_with fail
                refine (itoa_calls hh (by omega) (by omega) _).mono ?_
                rintro x w4 ⟨rfl, hc4⟩
                have HC4 : Hid (Chg [] wH w4) := hc4
                clear hc4 ce c1
                go_wp2_with fail
                refine (itoa_calls t (by omega) (by omega) _).mono ?_
                rintro x w5 ⟨rfl, hc5⟩
                have HC5 : Hid (Chg [] wH w5) := HC4.out.trans hc5
                clear hc5
                obtain ⟨c1, ce⟩ := HW2.out w5 HC5.out
                go_wp2_with fail
                refine (itoa_calls cc (by omega) (by omega) _).mono ?_
                rintro x w6 ⟨rfl, hc6⟩
                have HC6 : Hid (Chg [] w w6) := (HCH.out.trans HC5.out).trans hc6
                clear hc6 ce c1
                go_wp2
                go_roundw
                case rel => (repeat apply Exists.intro); refine ⟨?_, rfl⟩; exact ⟨hh + 1, by omega, by simp, by rw [E.out], HC6.out⟩
                case measure => simp [intOf]; omega
              | false =>
                have E : Hid (hL S.cn t ((List.range (hh + 1)).filter (hP S.cn t)) st = hL S.cn t ((List.range hh).filter (hP S.cn t)) st) := by
                  show _ = _
                  rw [hstep, if_neg (by rw [hpv]; simp)]
                have hz : ¬ 0 < (if low hh t = true then S.cn (rj hh t) else 0) := by
                  unfold hP at hpv
                  split
                  · rename_i hl
                    rw [hl] at hpv
                    simp at hpv
                    omega
                  · omega
                have d1 : decide (0 < (if low hh t = true then S.cn (rj hh t) else 0)) = false := by simpa using hz
                clear hstep hpv HW hz
                generalize hL S.cn t ((List.range hh).filter (hP S.cn t)) st = sh at *
                generalize (if low hh t = true then S.cn (rj hh t) else 0) = cc at *
                go_wp2
                exact ⟨⟨hh + 1, by omega, by simp, by rw [E.out], HCH.out⟩, by simp [intOf]; omega⟩
            · obtain rfl : hh = t + 1 := by omega
              clear hc hW
              go_wp2
              exact ⟨⟨t + 1, by omega, by omega, by simp, by rw [HST.out], HCH.out⟩, by simp [intOf]; omega⟩
        · obtain rfl : t = 5 := by omega
          have hsz := hQ_size S.cn s0 5
          have s1 := itoa_size S.nn
          have hnn := HO.out.small
          have c2 : wT.cell? ⟨pd, 2, none⟩ = some (.int .i64 S.nn) := cell_of (H.out.chg HCT.out (by simp)).row rfl
          generalize hQ S.cn s0 5 = s5 at *
          go_wp2_with fail
          refine (itoa_calls S.nn (by omega) (by omega) _).mono ?_
          rintro x w4 ⟨rfl, hc4⟩
          have HC4 : Hid (Chg [] w w4) := HCT.out.trans hc4
          clear hc4
          go_wp2
          go_ret
          rw [HSH.out]
          exact ⟨rfl, HC4.out⟩
end Go.Proofs.Qxb6500374a.W
