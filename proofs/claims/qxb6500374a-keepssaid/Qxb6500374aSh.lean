import Derived.Test.Qxb6500374aSw
set_option linter.unusedVariables false
set_option linter.unusedSimpArgs false
namespace Go.Proofs.Qxb6500374a.W
open Go.RowKit Go.Maps

theorem append_nil (w : World) (ty : TypeId) : (Builtin.append_ #[44, 44] ty #[.slice none 0 0, .slice none 0 0]).run Try.prog w = .ok (.slice none 0 0) w := by
  have hsz : (sizeOf 3).run Try.prog w = .ok 1 w := by kernel_rfl
  simp [Builtin.append_, run_underlying Try.underlying44, hsz, Builtin.lenOf, Builtin.firstCells, loadCells, loadCellsFrom, storeCells]

set_option maxHeartbeats 8000000 in
set_option maxRecDepth 4000 in
theorem show_calls {w : World} {px pa ph : Nat} {B C : Nat → Nat} {S : WS} (h : WAt w px pa ph B C S) (ho : S.ok) (hcap : ∀ j, j < 7 → S.cn j < 4611686018427387904) :
    Calls Try.prog 33 #[pt px] w fun x w' => x = .returned (.string (showS S)) ∧ Chg [] w w' := by
  have H : Hid (WAt w px pa ph B C S) := h
  have HO : Hid S.ok := ho
  have HCAP : Hid (∀ j, j < 7 → 0 ≤ S.cn j ∧ S.cn j < 4611686018427387904) := fun j hj => ⟨by obtain ⟨_, _, _, hok⟩ := h.hist; exact hok.pos j hj, hcap j hj⟩
  clear h ho hcap
  go_enter Try.func33, Try.ntmps33
  go_wp2_with fail
  go_loopw [3, 4, 5, 7] (fun v3 v4 _ _ wr => ∃ a : Nat, a ≤ 8 ∧ v4 = .int .i64 a ∧ v3 = .string (gS S.A a) ∧ Chg [] w wr) (fun _ v4 _ _ _ => (8 - intOf v4).toNat)
  case atStart => exact ⟨0, by omega, rfl, rfl, Chg.refl _ _⟩
  case round =>
    obtain ⟨a, ha, rfl, rfl, hc⟩ := hrel
    rename World => wO
    have HC : Hid (Chg [] w wO) := hc
    have hW := H.out.chg HO.out.aok hc (by simp)
    by_cases ha8 : a < 8
    · have c0 : wO.cell? ⟨px, 0, none⟩ = some (.map (some pa)) := cell_of hW.row rfl
      obtain ⟨lp, cap, hlook, hcase⟩ := hW.adj.look' a ha8
      have hsz := gS_size S.A a
      have hal := HO.out.aok.len a
      by_cases hempty : S.A a = []
      · rcases hcase with ⟨_, rfl, rfl⟩ | ⟨e, _⟩
        · rw [hempty] at hlook
          simp only [List.length_nil] at hlook
          have hap := append_nil wO
          have HG : Hid (gS S.A (a + 1) = gS S.A a) := by
            show _ = _
            have : sl S.A a = [] := by simp [sl, hempty]
            rw [gS, this]
            rfl
          clear hc hW hal hempty
          generalize gS S.A a = sa at *
          go_wp2_with (at_builtin; refine wpList_append_run rfl _ _ _ rfl _ _ _ _ rfl rfl hap ?_)
          refine (sortedN_calls wO).mono ?_
          rintro x w2 ⟨rfl, hc2⟩
          have HC2 : Hid (Chg [] w w2) := HC.out.trans hc2
          clear hc2
          go_wp2_with fail
          go_loopw [3, 7, 25] (fun v3 _ v25 wr => v25 = .int .i64 0 ∧ v3 = .string sa ∧ wr = w2) (fun _ _ _ _ => 0)
          case atStart => exact ⟨rfl, rfl, rfl⟩
          case round =>
            obtain ⟨rfl, rfl, rfl⟩ := hrel
            go_wp2
            exact ⟨⟨a + 1, by omega, by simp, by rw [HG.out], HC2.out⟩, by simp [intOf]; omega⟩
        · exact absurd hempty e
      · rcases hcase with ⟨e, _⟩ | ⟨_, rfl, rfl, hrow⟩
        · exact absurd e hempty
        obtain ⟨lpN, capN, w9, hap, hsl9, hc9, hown9⟩ := append_any (w := wO) (lp := none) (l := []) (news := S.A a) (cap := 0) (Bk := B a) (o := 0) (c := C a) (Or.inl ⟨rfl, rfl, rfl⟩) (by simp; omega) (by
            intro i hi
            rw [Nat.zero_add]
            exact hrow.cell hi)
        simp only [List.length_nil, Nat.zero_add, List.nil_append] at hap hsl9
        have hc9' : Chg [] wO w9 := hc9
        rcases hsl9 with ⟨e, _⟩ | ⟨pl, rfl, hr9⟩
        · exact absurd e hempty
        have hpl : wO.heap.size ≤ pl := by
          rcases hown9 pl (by simp [ownB]) with e | e
          · simp [ownB] at e
          · exact e
        have HS9 : Hid (RowAt w9 pl (S.A a) capN ∧ Chg [] wO w9 ∧ wO.heap.size ≤ pl) := ⟨hr9, hc9', hpl⟩
        have hsl := sl_length HO.out.aok a
        clear hc hW hempty hrow hc9 hown9 hc9' hr9 hpl
        go_wp2_with (at_builtin; refine wpList_append_run rfl _ _ _ rfl _ _ _ _ rfl rfl hap ?_)
        refine (sortedR_calls HS9.out.1 (by omega) (HO.out.aok.one a) (sl_strict S.A a) (fun x => mem_sl HO.out.aok)).mono ?_
        rintro x w2 ⟨rfl, hr2, hc2⟩
        have hc2' : Chg [] wO w2 := HS9.out.2.1.andThen hc2 (by intro x hx; simp at hx; exact Or.inr (by have := HS9.out.2.2; omega))
        have HC2 : Hid (RowAt w2 pl (sl S.A a) capN ∧ Chg [] w w2) := ⟨hr2, HC.out.trans hc2'⟩
        have hl8 := sl_len S.A a
        have HLT : Hid (∀ x ∈ sl S.A a, x < 8) := fun x hx => HO.out.aok.lt a x ((mem_sl HO.out.aok).2 hx)
        have HG : Hid (gS S.A (a + 1) = gL a (sl S.A a) (gS S.A a)) := rfl
        rw [← hsl]
        rw [← hsl] at hlook hal
        clear hc2 hc2' hr2 hap HS9 hsl
        generalize sl S.A a = l at *
        generalize gS S.A a = sa at *
        go_wp2_with fail
        go_loopw [3, 7, 25] (fun v3 _ v25 wr => ∃ j : Nat, j ≤ l.length ∧ v25 = .int .i64 j ∧ v3 = .string (gL a (l.take j) sa) ∧ Chg [] w2 wr) (fun _ _ v25 _ => ((l.length : Int) - intOf v25).toNat)
        case atStart => exact ⟨0, by omega, rfl, by simp [gL], Chg.refl _ _⟩
        case round =>
          obtain ⟨j, hj, rfl, rfl, hc3⟩ := hrel
          rename World => wI
          have HC3 : Hid (Chg [] w2 wI) := hc3
          clear hc3
          by_cases hjl : j < l.length
          · have d1 : decide (j < l.length) = true := by simpa using hjl
            have hcell := (HC2.out.1.chg HC3.out (by simp)).cell hjl
            have hb8 := HLT.out _ (List.getElem_mem hjl)
            have E : Hid (gL a (l.take (j + 1)) sa = gL a (l.take j) sa ++ (((⟨#[32]⟩ ++ itoa a) ++ ⟨#[62]⟩) ++ itoa (l[j] : Nat))) := gL_take hjl sa
            have sz := gL_size a (l.take j) sa
            have sz2 : (l.take j).length ≤ 8 := by simp; omega
            have s1 := itoa_size a
            have s2 := itoa_size (l[j] : Nat)
            generalize l[j] = m at *
            generalize gL a (l.take j) sa = sj at *
            go_wp2_with fail
            refine (itoa_calls a (by omega) (by omega) _).mono ?_
            rintro x w3 ⟨rfl, hc3⟩
            have HC4 : Hid (Chg [] w2 w3) := HC3.out.trans hc3
            clear hc3 hcell
            go_wp2_with fail
            refine (itoa_calls m (by omega) (by omega) _).mono ?_
            rintro x w4 ⟨rfl, hc4⟩
            have HC5 : Hid (Chg [] w2 w4) := HC4.out.trans hc4
            clear hc4
            go_wp2
            exact ⟨⟨j + 1, by omega, by simp, by rw [E.out], HC5.out⟩, by simp [intOf]; omega⟩
          · have d1 : decide (j < l.length) = false := by simpa using hjl
            have E : Hid (gL a (l.take j) sa = gS S.A (a + 1)) := by show _ = _; rw [HG.out, List.take_of_length_le (by omega)]
            rw [E.out]
            go_wp2
            exact ⟨⟨a + 1, by omega, by simp, rfl, HC2.out.2.trans HC3.out⟩, by simp [intOf]; omega⟩
    · obtain rfl : a = 8 := by omega
      have hsz := gS_size S.A 8
      have HSH : Hid (showS S = (hQ S.cn (gS S.A 8 ++ ⟨#[59, 32, 104]⟩) 5 ++ ⟨#[59, 32, 110, 97, 110, 61]⟩) ++ itoa S.nn) := rfl
      clear hc hW
      generalize gS S.A 8 = s8 at *
      have hs0 : (s8 ++ ⟨#[59, 32, 104]⟩ : ByteArray).size ≤ 3000 := by
        have e3 : (⟨#[59, 32, 104]⟩ : ByteArray).size = 3 := rfl
        simp only [ByteArray.size_append, e3]
        omega
      have HH1 : Hid (hQ S.cn (s8 ++ ⟨#[59, 32, 104]⟩) 1 = s8 ++ ⟨#[59, 32, 104]⟩) := hQ_one _ _
      go_wp2_with fail
      generalize hs0e : (s8 ++ ⟨#[59, 32, 104]⟩ : ByteArray) = s0 at *
      clear hs0e hsz
      go_loopw [3, 8, 9, 10] (fun v3 v8 _ _ wr => ∃ t : Nat, 1 ≤ t ∧ t ≤ 5 ∧ v8 = .int .i64 t ∧ v3 = .string (hQ S.cn s0 t) ∧ Chg [] w wr) (fun _ v8 _ _ _ => (6 - intOf v8).toNat)
      case atStart => exact ⟨1, by omega, by omega, rfl, by rw [HH1.out], HC.out⟩
      case round =>
        obtain ⟨t, ht1, ht5, rfl, rfl, hc⟩ := hrel
        rename World => wT
        have HCT : Hid (Chg [] w wT) := hc
        clear hc
        by_cases ht4 : t ≤ 4
        · have hsz := hQ_size S.cn s0 t
          have htt : t * t ≤ 16 := Nat.mul_le_mul ht4 ht4
          have d0 : decide ((t : Int) ≤ 4) = true := by simp; omega
          have HST : Hid (hQ S.cn s0 (t + 1) = hL S.cn t ((List.range (t + 1)).filter (hP S.cn t)) (hQ S.cn s0 t)) := rfl
          generalize hQ S.cn s0 t = st at *
          go_wp2_with fail
          go_loopw [3, 9, 10] (fun v3 v9 _ wr => ∃ hh : Nat, hh ≤ t + 1 ∧ v9 = .int .i64 hh ∧ v3 = .string (hL S.cn t ((List.range hh).filter (hP S.cn t)) st) ∧ Chg [] w wr) (fun _ v9 _ _ => (6 - intOf v9).toNat)
          case atStart => exact ⟨0, by omega, rfl, rfl, HCT.out⟩
          case round =>
            obtain ⟨hh, hht, rfl, rfl, hc⟩ := hrel
            rename World => wH
            have HCH : Hid (Chg [] w wH) := hc
            have hW := H.out.chg HO.out.aok hc (by simp)
            by_cases hle : hh ≤ t
            · have c1 : wH.cell? ⟨px, 1, none⟩ = some (.map (some ph)) := cell_of hW.row rfl
              have hk : ∀ n, (Instr.lookup 40 (.map (some ph)) (.float .f64 (fb (rj hh t))) false).run Try.prog (wH.drewN n) = .ok (.int .i64 (S.cn (rj hh t))) (wH.drewN n) := fun n =>
                ((hW.chg HO.out.aok ((Chg.refl [] wH).drewN n) (by simp)).hist.look (rj_lt hh t)).1
              have HRC : Hid (∀ W : World, Calls Try.prog 45 #[.int .i64 hh, .int .i64 t] W fun e w' => e = .returned (.float .f64 (fb (rj hh t))) ∧ w' = W) := fun W => rateN_calls hle ht4 (by omega) W
              have hbd := HCAP.out _ (rj_lt hh t)
              have hstep := hL_step S.cn t (hP S.cn t) hh st
              have hszL := hL_size S.cn t ((List.range hh).filter (hP S.cn t)) st
              have hszR : ((List.range hh).filter (hP S.cn t)).length ≤ 5 := by
                have := List.length_filter_le (hP S.cn t) (List.range hh)
                simp at this
                omega
              have HP : Hid (hP S.cn t hh = (low hh t && decide (0 < S.cn (rj hh t)))) := rfl
              clear hc hW
              by_cases hpos : 0 < S.cn (rj hh t)
              · by_cases hlow : Nat.gcd hh t = 1
                · have E : Hid (hL S.cn t ((List.range (hh + 1)).filter (hP S.cn t)) st = hL S.cn t ((List.range hh).filter (hP S.cn t)) st ++ (((((⟨#[32]⟩ ++ itoa hh) ++ ⟨#[47]⟩) ++ itoa t) ++ ⟨#[58]⟩) ++ itoa (S.cn (rj hh t)))) := by
                    show _ = _
                    rw [hstep, if_pos (by rw [HP.out]; simp [low, hlow, hpos])]
                    rfl
                  have s1 := itoa_size hh
                  have s2 := itoa_size t
                  have s3 := itoa_size (S.cn (rj hh t))
                  obtain ⟨hb0, hb1⟩ := hbd
                  have d1 : decide (0 < S.cn (rj hh t)) = true := by simpa using hpos
                  have HLW : Hid (Nat.gcd hh t = 1) := hlow
                  clear hstep HP hlow
                  generalize hL S.cn t ((List.range hh).filter (hP S.cn t)) st = sh at *
                  generalize S.cn (rj hh t) = cc at *
                  generalize fb (rj hh t) = fx at *
                  go_wp2_with fail
                  go_quiet (first | (go_at_call 45; refine Calls.quiet_of_same (HRC.out _)))
                  go_wp2_with fail
                  refine (gcd_calls (a := hh) (b := t) (by omega) (by omega) _).mono ?_
                  rintro x w3 ⟨rfl, hc3⟩
                  rw [HLW.out]
                  have HC3 : Hid (Chg [] w w3) := (HCH.out.drewN _).trans hc3
                  clear hc3
                  go_wp2_with fail
                  refine (itoa_calls hh (by omega) (by omega) _).mono ?_
                  rintro x w4 ⟨rfl, hc4⟩
                  have HC4 : Hid (Chg [] w w4) := HC3.out.trans hc4
                  clear hc4
                  go_wp2_with fail
                  refine (itoa_calls t (by omega) (by omega) _).mono ?_
                  rintro x w5 ⟨rfl, hc5⟩
                  have HC5 : Hid (Chg [] w w5) := HC4.out.trans hc5
                  clear hc5
                  go_wp2_with fail
                  refine (itoa_calls cc (by omega) (by omega) _).mono ?_
                  rintro x w6 ⟨rfl, hc6⟩
                  have HC6 : Hid (Chg [] w w6) := HC5.out.trans hc6
                  clear hc6
                  go_wp2
                  go_roundw
                  case rel => (repeat apply Exists.intro); refine ⟨?_, rfl⟩; exact ⟨hh + 1, by omega, by simp, by rw [E.out], HC6.out⟩
                  case measure => simp [intOf]; omega
                · have E : Hid (hL S.cn t ((List.range (hh + 1)).filter (hP S.cn t)) st = hL S.cn t ((List.range hh).filter (hP S.cn t)) st) := by
                    show _ = _
                    rw [hstep, if_neg (by rw [HP.out]; simp [low, hlow])]
                  have d1 : decide (0 < S.cn (rj hh t)) = true := by simpa using hpos
                  have d2 : ((Nat.gcd hh t : Int) == 1) = false := by simp; omega
                  clear hstep HP hlow
                  generalize hL S.cn t ((List.range hh).filter (hP S.cn t)) st = sh at *
                  generalize S.cn (rj hh t) = cc at *
                  generalize fb (rj hh t) = fx at *
                  go_wp2_with fail
                  go_quiet (first | (go_at_call 45; refine Calls.quiet_of_same (HRC.out _)))
                  go_wp2_with fail
                  refine (gcd_calls (a := hh) (b := t) (by omega) (by omega) _).mono ?_
                  rintro x w3 ⟨rfl, hc3⟩
                  have HC3 : Hid (Chg [] w w3) := (HCH.out.drewN _).trans hc3
                  clear hc3
                  generalize Nat.gcd hh t = gg at *
                  go_wp2
                  go_roundw
                  case rel => (repeat apply Exists.intro); refine ⟨?_, rfl⟩; exact ⟨hh + 1, by omega, by simp, by rw [E.out], HC3.out⟩
                  case measure => simp [intOf]; omega
              · have E : Hid (hL S.cn t ((List.range (hh + 1)).filter (hP S.cn t)) st = hL S.cn t ((List.range hh).filter (hP S.cn t)) st) := by
                  show _ = _
                  rw [hstep, if_neg (by rw [HP.out]; simp; intro _; omega)]
                have d1 : decide (0 < S.cn (rj hh t)) = false := by simpa using hpos
                clear hstep HP
                generalize hL S.cn t ((List.range hh).filter (hP S.cn t)) st = sh at *
                generalize S.cn (rj hh t) = cc at *
                generalize fb (rj hh t) = fx at *
                go_wp2_with fail
                go_quiet (first | (go_at_call 45; refine Calls.quiet_of_same (HRC.out _)))
                go_wp2
                go_roundw
                case rel => (repeat apply Exists.intro); refine ⟨?_, rfl⟩; exact ⟨hh + 1, by omega, by simp, by rw [E.out], HCH.out.drewN _⟩
                case measure => simp [intOf]; omega
            · obtain rfl : hh = t + 1 := by omega
              clear hc hW
              go_wp2
              exact ⟨⟨t + 1, by omega, by omega, by simp, by rw [HST.out], HCH.out⟩, by simp [intOf]; omega⟩
        · obtain rfl : t = 5 := by omega
          have hsz := hQ_size S.cn s0 5
          have s1 := itoa_size S.nn
          have hnn := HO.out.small
          generalize hQ S.cn s0 5 = s5 at *
          go_wp2_with fail
          refine (nans_calls (H.out.chg HO.out.aok HCT.out (by simp)) HO.out).mono ?_
          rintro x w3 ⟨rfl, hc3⟩
          have HC3 : Hid (Chg [] w w3) := HCT.out.trans hc3
          clear hc3
          go_wp2_with fail
          refine (itoa_calls S.nn (by omega) (by omega) _).mono ?_
          rintro x w4 ⟨rfl, hc4⟩
          have HC4 : Hid (Chg [] w w4) := HC3.out.trans hc4
          clear hc4
          go_wp2
          go_ret
          rw [HSH.out]
          exact ⟨rfl, HC4.out⟩
end Go.Proofs.Qxb6500374a.W
