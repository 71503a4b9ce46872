import Derived.Test.Qxb6500374aTd
set_option linter.unusedVariables false
set_option linter.unusedSimpArgs false
namespace Go.Proofs.Qxb6500374a.W
open Go.RowKit Go.Maps

/-- No fraction of fewer tries seen so far is the same number. -/
def lwB (h t u v : Nat) : Bool := !(((List.range u).any fun u' => decide (1 ≤ u') && (List.range (u' + 1)).any fun v' => decide (v' * t = h * u')) || (List.range v).any fun v' => decide (v' * t = h * u))
theorem lwB_step (h t u v : Nat) : lwB h t u (v + 1) = if v * t = h * u then false else lwB h t u v := by
  unfold lwB
  rw [List.range_succ (n := v), List.any_append]
  by_cases e : v * t = h * u
  · rw [if_pos e]; simp [e]
  · rw [if_neg e]; simp [e]
theorem lwB_next {h t u : Nat} (hu : 1 ≤ u) : lwB h t (u + 1) 0 = lwB h t u (u + 1) := by
  unfold lwB
  simp [hu, List.range_succ, List.any_append]
theorem lwB_chk : ((List.range 5).all fun t => (List.range 5).all fun h => !(decide (1 ≤ t) && decide (h ≤ t)) || (lwB h t t 0 == low h t)) = true := by kernel_rfl
theorem lwB_low {h t : Nat} (h1 : h ≤ t) (h2 : 1 ≤ t) (h3 : t ≤ 4) : lwB h t t 0 = low h t := by
  have := List.all_eq_true.1 (List.all_eq_true.1 lwB_chk t (List.mem_range.2 (by omega))) h (List.mem_range.2 (by omega))
  simpa [h1, h2] using this

set_option maxHeartbeats 8000000 in
set_option maxRecDepth 4000 in
theorem shown_calls {w : World} {pg pE pH pT pK : Nat} {S : WS} (h : GhAt w pg pE pH pT pK S) (ho : S.ok) (hcap : ∀ j, j < 7 → S.cn j < 4611686018427387904) :
    Calls Try.prog 54 #[pt pg] w fun x w' => x = .returned (.string (showS S)) ∧ Chg [] w w' := by
  obtain ⟨n, HH, TT, KZ, h⟩ := h
  have H : Hid (GhF w pg pE pH pT pK n HH TT KZ S) := h
  have hp := h.ok.pos
  have hn10 : n ≤ 10 := by have := h.ok.num; have := ho.small; omega
  have HO : Hid S.ok := ho
  have HCAP : Hid (∀ j, j < 7 → 0 ≤ S.cn j ∧ S.cn j < 4611686018427387904) := fun j hj => ⟨hp j hj, hcap j hj⟩
  clear h ho hcap hp
  go_enter Try.func54, Try.ntmps54
  go_wp2_with fail
  go_loopw [3, 4, 5, 6, 7] (fun v3 v4 _ _ _ wr => ∃ a : Nat, a ≤ 8 ∧ v4 = .int .i64 a ∧ v3 = .string (gS S.A a) ∧ Chg [] w wr) (fun _ v4 _ _ _ _ => (8 - intOf v4).toNat)
  case atStart => exact ⟨0, by omega, rfl, rfl, Chg.refl _ _⟩
  case round =>
    obtain ⟨a, ha, rfl, rfl, hc⟩ := hrel
    rename World => wO
    have HC : Hid (Chg [] w wO) := hc
    clear hc
    by_cases ha8 : a < 8
    · have hsz := gS_size S.A a
      have HG : Hid (gS S.A (a + 1) = gL a ((List.range 8).filter fun b => (S.A a).contains b) (gS S.A a)) := rfl
      have d0 : decide ((a : Int) < 8) = true := by simp; omega
      generalize gS S.A a = sa at *
      go_wp2_with fail
      go_loopw [3, 5, 6, 7] (fun v3 v5 _ _ wr => ∃ b : Nat, b ≤ 8 ∧ v5 = .int .i64 b ∧ v3 = .string (gL a ((List.range b).filter fun b => (S.A a).contains b) sa) ∧ Chg [] w wr) (fun _ v5 _ _ _ => (8 - intOf v5).toNat)
      case atStart => exact ⟨0, by omega, rfl, rfl, HC.out⟩
      case round =>
        obtain ⟨b, hb, rfl, rfl, hc⟩ := hrel
        rename World => wI
        have HCI : Hid (Chg [] w wI) := hc
        have hW := H.out.chg hc (by simp)
        by_cases hb8 : b < 8
        · have c0 : wI.cell? ⟨pg, 0, none⟩ = some (.slice (some ⟨pE, 0, none⟩) 64 64) := cell_of hW.row rfl
          have ce := hW.edge.cell (i := a * 8 + b) (by omega)
          rw [eF_at _ hb8] at ce
          have hstep := gL_step a (fun b => (S.A a).contains b) b sa
          have hszL := gL_size a ((List.range b).filter fun b => (S.A a).contains b) sa
          have hszR : ((List.range b).filter fun b => (S.A a).contains b).length ≤ 8 := by
            have := List.length_filter_le (fun b => (S.A a).contains b) (List.range b)
            rw [List.length_range] at this
            omega
          clear hc hW
          cases hcv : (S.A a).contains b with
          | true =>
            rw [hcv] at ce
            have E : Hid (gL a ((List.range (b + 1)).filter fun b => (S.A a).contains b) sa = (((gL a ((List.range b).filter fun b => (S.A a).contains b) sa ++ ⟨#[32]⟩) ++ itoa a) ++ ⟨#[62]⟩) ++ itoa b) := by
              show _ = _
              rw [hstep, if_pos hcv, it1_app]
            have s1 := itoa_size a
            have s2 := itoa_size b
            clear hstep
            generalize gL a ((List.range b).filter fun b => (S.A a).contains b) sa = sj at *
            go_wp2_with fail
            refine (itoa_calls a (by omega) (by omega) _).mono ?_
            rintro x w3 ⟨rfl, hc3⟩
            have HC4 : Hid (Chg [] w w3) := HCI.out.trans hc3
            clear hc3 ce c0
            go_wp2_with fail
            refine (itoa_calls b (by omega) (by omega) _).mono ?_
            rintro x w4 ⟨rfl, hc4⟩
            have HC5 : Hid (Chg [] w w4) := HC4.out.trans hc4
            clear hc4
            go_wp2
            exact ⟨⟨b + 1, by omega, by simp, by rw [E.out], HC5.out⟩, by simp [intOf]; omega⟩
          | false =>
            rw [hcv] at ce
            have E : Hid (gL a ((List.range (b + 1)).filter fun b => (S.A a).contains b) sa = gL a ((List.range b).filter fun b => (S.A a).contains b) sa) := by
              show _ = _
              rw [hstep, if_neg (by rw [hcv]; simp)]
            clear hstep
            generalize gL a ((List.range b).filter fun b => (S.A a).contains b) sa = sj at *
            go_wp2
            exact ⟨⟨b + 1, by omega, by simp, by rw [E.out], HCI.out⟩, by simp [intOf]; omega⟩
        · obtain rfl : b = 8 := by omega
          clear hc hW
          go_wp2
          exact ⟨⟨a + 1, by omega, by simp, by rw [HG.out], HCI.out⟩, by simp [intOf]; omega⟩
    · obtain rfl : a = 8 := by omega
      have hsz := gS_size S.A 8
      have HSH : Hid (showS S = (hQ S.cn (gS S.A 8 ++ ⟨#[59, 32, 104]⟩) 5 ++ ⟨#[59, 32, 110, 97, 110, 61]⟩) ++ itoa S.nn) := rfl
      generalize gS S.A 8 = s8 at *
      have hs0 : (s8 ++ ⟨#[59, 32, 104]⟩ : ByteArray).size ≤ 3000 := by
        have e3 : (⟨#[59, 32, 104]⟩ : ByteArray).size = 3 := rfl
        simp only [ByteArray.size_append, e3]
        omega
      have HH1 : Hid (hQ S.cn (s8 ++ ⟨#[59, 32, 104]⟩) 1 = s8 ++ ⟨#[59, 32, 104]⟩) := hQ_one _ _
      go_wp2_with fail
      generalize hs0e : (s8 ++ ⟨#[59, 32, 104]⟩ : ByteArray) = s0 at *
      clear hs0e hsz
      go_loopw [3, 8, 9, 10, 11, 12, 13, 14, 15, 16] (fun v3 v8 _ _ _ _ _ _ _ _ wr => ∃ t : Nat, 1 ≤ t ∧ t ≤ 5 ∧ v8 = .int .i64 t ∧ v3 = .string (hQ S.cn s0 t) ∧ Chg [] w wr) (fun _ v8 _ _ _ _ _ _ _ _ _ => (6 - intOf v8).toNat)
      case atStart => exact ⟨1, by omega, by omega, rfl, by rw [HH1.out], HC.out⟩
      case round =>
        obtain ⟨t, ht1, ht5, rfl, rfl, hc⟩ := hrel
        rename World => wT
        have HCT : Hid (Chg [] w wT) := hc
        clear hc
        by_cases ht4 : t ≤ 4
        · have hsz := hQ_size S.cn s0 t
          have htt : t * t ≤ 16 := Nat.mul_le_mul ht4 ht4
          have d0 : decide ((t : Int) ≤ 4) = true := by simp; omega
          have HST : Hid (hQ S.cn s0 (t + 1) = hL S.cn t ((List.range (t + 1)).filter (hP S.cn t)) (hQ S.cn s0 t)) := rfl
          generalize hQ S.cn s0 t = st at *
          go_wp2_with fail
          go_loopw [3, 9, 10, 11, 12, 13, 14, 15, 16] (fun v3 v9 _ _ _ _ _ _ _ wr => ∃ hh : Nat, hh ≤ t + 1 ∧ v9 = .int .i64 hh ∧ v3 = .string (hL S.cn t ((List.range hh).filter (hP S.cn t)) st) ∧ Chg [] w wr) (fun _ v9 _ _ _ _ _ _ _ _ => (6 - intOf v9).toNat)
          case atStart => exact ⟨0, by omega, rfl, rfl, HCT.out⟩
          case round =>
            obtain ⟨hh, hht, rfl, rfl, hc⟩ := hrel
            rename World => wH
            have HCH : Hid (Chg [] w wH) := hc
            clear hc
            by_cases hle : hh ≤ t
            · have d1 : decide ((hh : Int) ≤ (t : Int)) = true := by simp; omega
              have d1' : decide (hh ≤ t) = true := by simpa using hle
              have hszL := hL_size S.cn t ((List.range hh).filter (hP S.cn t)) st
              have hszR : ((List.range hh).filter (hP S.cn t)).length ≤ 5 := by
                have := List.length_filter_le (hP S.cn t) (List.range hh)
                rw [List.length_range] at this
                omega
              have HSTP : Hid (hL S.cn t ((List.range (hh + 1)).filter (hP S.cn t)) st = if hP S.cn t hh = true then hL S.cn t ((List.range hh).filter (hP S.cn t)) st ++ it2 hh t (S.cn (rj hh t)) else hL S.cn t ((List.range hh).filter (hP S.cn t)) st) := hL_step S.cn t (hP S.cn t) hh st
              generalize hL S.cn t ((List.range hh).filter (hP S.cn t)) st = sh at *
              go_wp2_with fail
              go_loopw [10, 11, 12] (fun v10 v11 _ wr => ∃ u : Nat, 1 ≤ u ∧ u ≤ t ∧ v11 = .int .i64 u ∧ v10 = .bool (lwB hh t u 0) ∧ wr = wH) (fun _ v11 _ _ => (6 - intOf v11).toNat)
              case atStart => exact ⟨1, by omega, by omega, rfl, by simp [lwB, List.range_succ], rfl⟩
              case round =>
                obtain ⟨u, hu1, hut, rfl, rfl, rfl⟩ := hrel
                by_cases hul : u < t
                · have d2 : decide (u < t) = true := by simpa using hul
                  have d2' : decide ((u : Int) < (t : Int)) = true := by simp; omega
                  have HNX : Hid (lwB hh t (u + 1) 0 = lwB hh t u (u + 1)) := lwB_next hu1
                  go_wp2_with fail
                  go_loopw [10, 12] (fun v10 v12 wr2 => ∃ v : Nat, v ≤ u + 1 ∧ v12 = .int .i64 v ∧ v10 = .bool (lwB hh t u v) ∧ wr2 = wr) (fun _ v12 _ => (6 - intOf v12).toNat)
                  case atStart => exact ⟨0, by omega, rfl, rfl, rfl⟩
                  case round =>
                    obtain ⟨v, hvu, rfl, rfl, hwr⟩ := hrel
                    obtain rfl := hwr
                    by_cases hvl : v ≤ u
                    · have d3 : decide (v ≤ u) = true := by simpa using hvl
                      have HSV : Hid (lwB hh t u (v + 1) = if v * t = hh * u then false else lwB hh t u v) := lwB_step hh t u v
                      have m1 : v * t ≤ 16 := Nat.le_trans (Nat.mul_le_mul (show v ≤ 4 by omega) ht4) (by omega)
                      have m2 : hh * u ≤ 16 := Nat.le_trans (Nat.mul_le_mul (show hh ≤ 4 by omega) (show u ≤ 4 by omega)) (by omega)
                      have p1 : (v : Int) * (t : Int) = ((v * t : Nat) : Int) := by simp
                      have p2 : (hh : Int) * (u : Int) = ((hh * u : Nat) : Int) := by simp
                      by_cases hq : v * t = hh * u
                      · have dq2 : (((v : Int) * (t : Int)) == ((hh : Int) * (u : Int))) = true := by rw [p1, p2, hq]; simp
                        have HS2 : Hid (lwB hh t u (v + 1) = false) := by show _ = _; rw [HSV.out, if_pos hq]
                        clear HSV hq p1 p2
                        generalize lwB hh t u v = lb at *
                        go_wp2
                        exact ⟨⟨v + 1, by omega, by simp, by rw [HS2.out], by first | rfl | trivial⟩, by simp [intOf]; omega⟩
                      · have dq2 : (((v : Int) * (t : Int)) == ((hh : Int) * (u : Int))) = false := by
                          rw [p1, p2]
                          simp
                          exact fun e => hq (by omega)
                        have HS2 : Hid (lwB hh t u (v + 1) = lwB hh t u v) := by show _ = _; rw [HSV.out, if_neg hq]
                        clear HSV hq p1 p2
                        generalize hlb : lwB hh t u v = lb at *
                        clear hlb
                        go_wp2
                        exact ⟨⟨v + 1, by omega, by simp, by rw [HS2.out], by first | rfl | trivial⟩, by simp [intOf]; omega⟩
                    · obtain rfl : v = u + 1 := by omega
                      generalize hlb : lwB hh t u (u + 1) = lb at *
                      clear hlb
                      go_wp2
                      exact ⟨⟨u + 1, by omega, by omega, by simp, by rw [HNX.out], by first | rfl | trivial⟩, by simp [intOf]; omega⟩
                · obtain rfl : u = t := by omega
                  have d2 : decide (u < u) = false := by simp
                  have ELW : Hid (lwB hh u u 0 = low hh u) := lwB_low hle ht1 ht4
                  rw [ELW.out]
                  have HLO : Hid (hP S.cn u hh = (low hh u && decide (0 < S.cn (rj hh u)))) := rfl
                  have hbd := HCAP.out _ (rj_lt hh u)
                  generalize hlv : low hh u = lv at *
                  clear hlv
                  go_wp2_with fail
                  refine (where_calls (H.out.chg HCH.out (by simp)) hn10 hle ht1 ht4).mono ?_
                  rintro x w3 ⟨hc3, hwh⟩
                  have HC3 : Hid (Chg [] w w3) := HCH.out.trans hc3
                  clear hc3
                  rcases hwh with ⟨i, hi, rfl, hri, hpos⟩ | ⟨rfl, h00, hno⟩
                  · cases lv with
                    | true =>
                      have E : Hid (hL S.cn u ((List.range (hh + 1)).filter (hP S.cn u)) st = (((((sh ++ ⟨#[32]⟩) ++ itoa hh) ++ ⟨#[47]⟩) ++ itoa u) ++ ⟨#[58]⟩) ++ itoa (S.cn (rj hh u))) := by
                        show _ = _
                        rw [HSTP.out, if_pos (by rw [HLO.out]; simp [hpos]), it2_app]
                      have HKI : Hid (KZ i = S.cn (rj hh u)) := by
                        show _ = _
                        rw [(H.out.ok.each i hi).2.2.2.2.1, hri]
                      have s1 := itoa_size hh
                      have s2 := itoa_size u
                      have s3 := itoa_size (S.cn (rj hh u))
                      obtain ⟨hb0, hb1⟩ := hbd
                      clear HSTP HLO hri
                      generalize S.cn (rj hh u) = cc at *
                      go_wp2_with fail
                      refine (itoa_calls hh (by omega) (by omega) _).mono ?_
                      rintro x w4 ⟨rfl, hc4⟩
                      have HC4 : Hid (Chg [] w w4) := HC3.out.trans hc4
                      clear hc4
                      go_wp2_with fail
                      refine (itoa_calls u (by omega) (by omega) _).mono ?_
                      rintro x w5 ⟨rfl, hc5⟩
                      have HC5 : Hid (Chg [] w w5) := HC4.out.trans hc5
                      clear hc5
                      have hG5 := H.out.chg HC5.out (by simp)
                      have c3 : w5.cell? ⟨pg, 3, none⟩ = some (.slice (some ⟨pK, 0, none⟩) 10 10) := cell_of hG5.row rfl
                      have ck := hG5.k.cell (i := i) (by omega)
                      rw [HKI.out] at ck
                      clear hG5
                      go_wp2_with fail
                      refine (itoa_calls cc (by omega) (by omega) _).mono ?_
                      rintro x w6 ⟨rfl, hc6⟩
                      have HC6 : Hid (Chg [] w w6) := HC5.out.trans hc6
                      clear hc6 c3 ck
                      go_wp2
                      go_roundw
                      case rel =>
                        first
                        | exact ⟨hh + 1, by omega, by simp, by rw [E.out], HC6.out⟩
                        | ((repeat apply Exists.intro); refine ⟨?_, rfl⟩; exact ⟨hh + 1, by omega, by simp, by rw [E.out], HC6.out⟩)
                      case measure => simp [intOf]; omega
                    | false =>
                      have E : Hid (hL S.cn u ((List.range (hh + 1)).filter (hP S.cn u)) st = sh) := by
                        show _ = _
                        rw [HSTP.out, if_neg (by rw [HLO.out]; simp)]
                      clear HSTP HLO hri
                      go_wp2
                      go_roundw
                      case rel =>
                        first
                        | exact ⟨hh + 1, by omega, by simp, by rw [E.out], HC3.out⟩
                        | ((repeat apply Exists.intro); refine ⟨?_, rfl⟩; exact ⟨hh + 1, by omega, by simp, by rw [E.out], HC3.out⟩)
                      case measure => simp [intOf]; omega
                  · have E : Hid (hL S.cn u ((List.range (hh + 1)).filter (hP S.cn u)) st = sh) := by
                      show _ = _
                      rw [HSTP.out, if_neg (by rw [HLO.out, h00]; simp)]
                    clear HSTP HLO hno
                    cases lv
                    all_goals
                      go_wp2
                      go_roundw
                      case rel =>
                        first
                        | exact ⟨hh + 1, by omega, by simp, by rw [E.out], HC3.out⟩
                        | ((repeat apply Exists.intro); refine ⟨?_, rfl⟩; exact ⟨hh + 1, by omega, by simp, by rw [E.out], HC3.out⟩)
                      case measure => simp [intOf]; omega
            · obtain rfl : hh = t + 1 := by omega
              go_wp2
              exact ⟨⟨t + 1, by omega, by omega, by simp, by rw [HST.out], HCH.out⟩, by simp [intOf]; omega⟩
        · obtain rfl : t = 5 := by omega
          have hsz := hQ_size S.cn s0 5
          have s1 := itoa_size S.nn
          have hnn := HO.out.small
          have c5 : wT.cell? ⟨pg, 5, none⟩ = some (.int .i64 S.nn) := cell_of (H.out.chg HCT.out (by simp)).row rfl
          generalize hQ S.cn s0 5 = s5 at *
          go_wp2_with fail
          refine (itoa_calls S.nn (by omega) (by omega) _).mono ?_
          rintro x w4 ⟨rfl, hc4⟩
          have HC4 : Hid (Chg [] w w4) := HCT.out.trans hc4
          clear hc4
          go_wp2
          go_ret
          rw [HSH.out]
          exact ⟨rfl, HC4.out⟩
end Go.Proofs.Qxb6500374a.W
