import Derived.Test.Qxb6500374aGr
set_option linter.unusedVariables false
set_option linter.unusedSimpArgs false
namespace Go.Proofs.Qxb6500374a.W
open Go.RowKit Go.Maps

theorem GhF.setE {w : World} {pg pE pH pT pK n : Nat} {H T K : Nat → Int} {S : WS} (h : GhF w pg pE pH pT pK n H T K S) {a b : Nat} (ha : a < 8) (hb : b < 8) {l : List Nat} {v : Bool} (hl : ∀ c, c < 8 → l.contains c = if c = b then v else (S.A a).contains c) :
    GStp pg pE pH pT pK { S with A := updA S.A a l } w (w.setCell ⟨pE, a * 8 + b, none⟩ (.bool v)) := by
  have hc : Chg [pE] w (w.setCell ⟨pE, a * 8 + b, none⟩ (.bool v)) := (Chg.refl _ _).setCell (Or.inl (by simp)) _
  have hap := h.ap
  simp only [List.nodup_cons, List.mem_cons, not_or, List.not_mem_nil, not_false_eq_true, List.nodup_nil, and_true] at hap
  refine ⟨⟨n, H, T, K, hc.keep h.row (by simp; exact hap.1.1), (h.edge.set (by omega) v).congr (fun i _ => eF_upd hb hl i), h.h.chg hc (by simp; exact fun e => hap.2.1.1 e.symm), h.t.chg hc (by simp; exact fun e => hap.2.1.2.1 e.symm), h.k.chg hc (by simp; exact fun e => hap.2.1.2.2 e.symm), h.ok, h.ap⟩, hc.mono (by simp [gb])⟩

set_option maxHeartbeats 8000000 in
set_option maxRecDepth 4000 in
theorem gr_reach {w : World} {pg pE pH pT pK : Nat} {S : WS} (h : GhAt w pg pE pH pT pK S) (ho : S.ok) (o : OpD) (hk : o.kind = 3) (hn : isN o.a = true) : Calls Try.prog 56 #[pt pg, opV o] w (GrP pg pE pH pT pK S o w) := by
  have H : Hid (GhAt w pg pE pH pT pK S) := h
  have HO : Hid S.ok := ho
  obtain ⟨kind, a, b, c, s, t⟩ := o
  simp only at hk hn
  subst hk
  have HN : Hid (isN a = true) := hn
  obtain ⟨k, hk8, rfl⟩ := isN_iff.1 hn
  have EA : Hid (ansD S ⟨3, (k : Int), b, c, s, t⟩ = ⟨0, (fl (rchB S.A k) 8).length, 0, joinS (fl (rchB S.A k) 8)⟩ ∧ (stepD S ⟨3, (k : Int), b, c, s, t⟩ 0).A = S.A ∧ (stepD S ⟨3, (k : Int), b, c, s, t⟩ 0).cn = S.cn ∧ (stepD S ⟨3, (k : Int), b, c, s, t⟩ 0).nn = S.nn) := by
    show _ ∧ _
    refine ⟨?_, ?_⟩
    · simp only [ansD, reachS]
      rw [if_pos hn]
      rfl
    · simp only [stepD, reachS]
      rw [if_pos hn]
      exact ⟨rfl, rfl, rfl⟩
  clear h ho hn
  unfold opV
  go_enter Try.func56, Try.ntmps56
  go_wp2_with fail
  refine (isNode_calls k _).mono ?_
  rintro x w2 ⟨rfl, hw2⟩
  have hw2' : w2 = gW w ⟨3, (k : Int), b, c, s, t⟩ := hw2
  have hgw : GW w ⟨3, (k : Int), b, c, s, t⟩ w2 := by rw [hw2']; exact gW_gw _ _
  obtain ⟨o0, o1, o2, r0, r1, r2, r3, fr⟩ := hgw.facts
  have HG : Hid (GW w ⟨3, (k : Int), b, c, s, t⟩ w2) := hgw
  have HC : Hid (Chg [] (gW w ⟨3, (k : Int), b, c, s, t⟩) w2) := by show Chg _ _ _; rw [hw2']; exact Chg.refl _ _
  have HGH : Hid (GhAt w2 pg pE pH pT pK S) := (H.out.chg (gW_chg _ _ []) (by simp)).chg HC.out (by simp)
  clear hw2 hw2' hgw
  simp only at o0 o1 o2
  rw [HN.out]
  go_wp2_with fail
  refine (within_calls HGH.out HO.out hk8).mono ?_
  rintro x w3 ⟨pI, hpI, rfl, hgrid, hc3⟩
  have hgw3 := HG.out.chg hc3 (by simp)
  have HG3 : Hid (GW w ⟨3, (k : Int), b, c, s, t⟩ w3) := hgw3
  have HC3 : Hid (Chg [] (gW w ⟨3, (k : Int), b, c, s, t⟩) w3) := HC.out.trans hc3
  have HGR : Hid (BGrid w3 pI 8 (rchB S.A k)) := hgrid
  clear o0 o1 o2 r0 r1 r2 r3 fr hc3 hgrid hgw3 hpI
  go_wp2_with fail
  refine (told1_calls HGR.out).mono ?_
  rintro x w4 ⟨rfl, hc4⟩
  have hgw4 := HG3.out.chg hc4 (by simp)
  obtain ⟨o0, o1, o2, r0, r1, r2, r3, fr⟩ := hgw4.facts
  have HG4 : Hid (GW w ⟨3, (k : Int), b, c, s, t⟩ w4) := hgw4
  have HC4 : Hid (Chg [] (gW w ⟨3, (k : Int), b, c, s, t⟩) w4) := HC3.out.trans hc4
  clear hc4 hgw4
  simp only at o0 o1 o2
  generalize hn4 : fl (rchB S.A k) 8 = L at *
  have HL : Hid (fl (rchB S.A k) 8 = L) := hn4
  clear hn4
  generalize hn5 : L.length = ln at *
  generalize hj5 : joinS L = js at *
  have HLL : Hid (L.length = ln ∧ joinS L = js) := ⟨hn5, hj5⟩
  clear hn5 hj5
  go_wp2
  refine gr_end rfl rfl H.out (S' := stepD S ⟨3, (k : Int), b, c, s, t⟩ 0) ⟨?_, HC4.out.any⟩ HG4.out rfl ?_ rfl
  · obtain ⟨n, HH, TT, KZ, hf⟩ := (H.out.chg (gW_chg _ ⟨3, (k : Int), b, c, s, t⟩ []) (by simp)).chg HC4.out (by simp)
    obtain ⟨e1, e2, e3⟩ := EA.out.2
    exact ⟨n, HH, TT, KZ, by rw [e3]; exact hf.row, by rw [e1]; exact hf.edge, hf.h, hf.t, hf.k, by rw [e2]; exact hf.ok, hf.ap⟩
  · exact EA.out.1

set_option maxHeartbeats 8000000 in
set_option maxRecDepth 4000 in
theorem gr_twins {w : World} {pg pE pH pT pK : Nat} {S : WS} (h : GhAt w pg pE pH pT pK S) (ho : S.ok) (o : OpD) (hk : o.kind = 4) (hn : isN o.a = true) : Calls Try.prog 56 #[pt pg, opV o] w (GrP pg pE pH pT pK S o w) := by
  have H : Hid (GhAt w pg pE pH pT pK S) := h
  have HO : Hid S.ok := ho
  obtain ⟨kind, a, b, c, s, t⟩ := o
  simp only at hk hn
  subst hk
  have HN : Hid (isN a = true) := hn
  obtain ⟨k, hk8, rfl⟩ := isN_iff.1 hn
  have EA : Hid (ansD S ⟨4, (k : Int), b, c, s, t⟩ = ⟨0, (fl (p2 (rchB S.A k)) 4).length, (fl (p2 (rchB S.A k)) 4).length, joinS (fl (p2 (rchB S.A k)) 4)⟩ ∧ (stepD S ⟨4, (k : Int), b, c, s, t⟩ 0).A = S.A ∧ (stepD S ⟨4, (k : Int), b, c, s, t⟩ 0).cn = S.cn ∧ (stepD S ⟨4, (k : Int), b, c, s, t⟩ 0).nn = S.nn) := by
    show _ ∧ _
    refine ⟨?_, ?_⟩
    · simp only [ansD, twinsS]
      rw [if_pos hn]
      rfl
    · simp only [stepD, twinsS]
      rw [if_pos hn]
      exact ⟨rfl, rfl, rfl⟩
  clear h ho hn
  unfold opV
  go_enter Try.func56, Try.ntmps56
  go_wp2_with fail
  refine (isNode_calls k _).mono ?_
  rintro x w2 ⟨rfl, hw2⟩
  have hw2' : w2 = gW w ⟨4, (k : Int), b, c, s, t⟩ := hw2
  have hgw : GW w ⟨4, (k : Int), b, c, s, t⟩ w2 := by rw [hw2']; exact gW_gw _ _
  obtain ⟨o0, o1, o2, r0, r1, r2, r3, fr⟩ := hgw.facts
  have HG : Hid (GW w ⟨4, (k : Int), b, c, s, t⟩ w2) := hgw
  have HC : Hid (Chg [] (gW w ⟨4, (k : Int), b, c, s, t⟩) w2) := by show Chg _ _ _; rw [hw2']; exact Chg.refl _ _
  have HGH : Hid (GhAt w2 pg pE pH pT pK S) := (H.out.chg (gW_chg _ _ []) (by simp)).chg HC.out (by simp)
  clear hw2 hw2' hgw
  simp only at o0 o1 o2
  rw [HN.out]
  go_wp2_with fail
  refine (within_calls HGH.out HO.out hk8).mono ?_
  rintro x w3 ⟨pI, hpI, rfl, hgrid, hc3⟩
  have hgw3 := HG.out.chg hc3 (by simp)
  have HG3 : Hid (GW w ⟨4, (k : Int), b, c, s, t⟩ w3) := hgw3
  have HC3 : Hid (Chg [] (gW w ⟨4, (k : Int), b, c, s, t⟩) w3) := HC.out.trans hc3
  have HGR : Hid (BGrid w3 pI 8 (rchB S.A k)) := hgrid
  clear o0 o1 o2 r0 r1 r2 r3 fr hc3 hgrid hgw3 hpI
  go_wp2_with fail
  refine (told2_calls HGR.out).mono ?_
  rintro x w4 ⟨rfl, hc4⟩
  have hgw4 := HG3.out.chg hc4 (by simp)
  obtain ⟨o0, o1, o2, r0, r1, r2, r3, fr⟩ := hgw4.facts
  have HG4 : Hid (GW w ⟨4, (k : Int), b, c, s, t⟩ w4) := hgw4
  have HC4 : Hid (Chg [] (gW w ⟨4, (k : Int), b, c, s, t⟩) w4) := HC3.out.trans hc4
  clear hc4 hgw4
  simp only at o0 o1 o2
  generalize hn4 : fl (p2 (rchB S.A k)) 4 = L at *
  have HL : Hid (fl (p2 (rchB S.A k)) 4 = L) := hn4
  clear hn4
  generalize hn5 : L.length = ln at *
  generalize hj5 : joinS L = js at *
  have HLL : Hid (L.length = ln ∧ joinS L = js) := ⟨hn5, hj5⟩
  clear hn5 hj5
  go_wp2
  refine gr_end rfl rfl H.out (S' := stepD S ⟨4, (k : Int), b, c, s, t⟩ 0) ⟨?_, HC4.out.any⟩ HG4.out rfl ?_ rfl
  · obtain ⟨n, HH, TT, KZ, hf⟩ := (H.out.chg (gW_chg _ ⟨4, (k : Int), b, c, s, t⟩ []) (by simp)).chg HC4.out (by simp)
    obtain ⟨e1, e2, e3⟩ := EA.out.2
    exact ⟨n, HH, TT, KZ, by rw [e3]; exact hf.row, by rw [e1]; exact hf.edge, hf.h, hf.t, hf.k, by rw [e2]; exact hf.ok, hf.ap⟩
  · exact EA.out.1

set_option maxHeartbeats 4000000 in
set_option maxRecDepth 4000 in
theorem gr_badb {w : World} {pg pE pH pT pK : Nat} {S : WS} (h : GhAt w pg pE pH pT pK S) (o : OpD) (hk : o.kind = 1 ∨ o.kind = 2) (hn : isN o.a = true) (hnb : isN o.b = false) : Calls Try.prog 56 #[pt pg, opV o] w (GrP pg pE pH pT pK S o w) := by
  have H : Hid (GhAt w pg pE pH pT pK S) := h
  have EA : Hid (ansD S o = ⟨1, 0, 0, ⟨#[]⟩⟩ ∧ stepD S o 0 = S) := by
    show _ ∧ _
    rcases hk with e | e <;> simp [ansD, stepD, e, linkS, cutS, hn, hnb]
  obtain ⟨kind, a, b, c, s, t⟩ := o
  simp only at hk hn hnb
  have HN : Hid (isN a = true) := hn
  have HNB : Hid (isN b = false) := hnb
  have d3 : (kind == 3) = false := by rcases hk with e | e <;> simp [e]
  have d4 : (kind == 4) = false := by rcases hk with e | e <;> simp [e]
  clear h hk hn hnb
  unfold opV
  go_enter Try.func56, Try.ntmps56
  go_wp2_with fail
  refine (isNode_calls a _).mono ?_
  rintro x w2 ⟨rfl, hw2⟩
  have hw2' : w2 = gW w ⟨kind, a, b, c, s, t⟩ := hw2
  have hgw : GW w ⟨kind, a, b, c, s, t⟩ w2 := by rw [hw2']; exact gW_gw _ _
  obtain ⟨o0, o1, o2, r0, r1, r2, r3, fr⟩ := hgw.facts
  have HG : Hid (GW w ⟨kind, a, b, c, s, t⟩ w2) := hgw
  have HC : Hid (Chg [] (gW w ⟨kind, a, b, c, s, t⟩) w2) := by show Chg _ _ _; rw [hw2']; exact Chg.refl _ _
  clear hw2 hw2' hgw
  simp only at o0 o1 o2
  rw [HN.out]
  go_wp2_with fail
  refine (isNode_calls b _).mono ?_
  rintro x w3 ⟨rfl, hw3⟩
  obtain rfl : w2 = w3 := hw3.symm
  clear hw3
  rw [HNB.out]
  go_wp2
  exact gr_end rfl rfl H.out (GStp.same (H.out.chg (gW_chg _ _ []) (by simp)) HC.out) HG.out rfl EA.out.1 EA.out.2

set_option maxHeartbeats 8000000 in
set_option maxRecDepth 4000 in
theorem gr_cut_no {w : World} {pg pE pH pT pK : Nat} {S : WS} (h : GhAt w pg pE pH pT pK S) (ho : S.ok) (o : OpD) (hk : o.kind = 2) (hn : isN o.a = true) (hnb : isN o.b = true) (hm : o.b.toNat ∉ S.A o.a.toNat) : Calls Try.prog 56 #[pt pg, opV o] w (GrP pg pE pH pT pK S o w) := by
  have H : Hid (GhAt w pg pE pH pT pK S) := h
  have HO : Hid S.ok := ho
  obtain ⟨kind, a, b, c, s, t⟩ := o
  simp only at hk hn hnb
  subst hk
  have HN : Hid (isN a = true) := hn
  have HNB : Hid (isN b = true) := hnb
  obtain ⟨k, hk8, rfl⟩ := isN_iff.1 hn
  obtain ⟨m, hm8, rfl⟩ := isN_iff.1 hnb
  have EA : Hid (ansD S ⟨2, (k : Int), (m : Int), c, s, t⟩ = ⟨4, 0, 0, ⟨#[]⟩⟩ ∧ stepD S ⟨2, (k : Int), (m : Int), c, s, t⟩ 0 = S) := by
    show _ ∧ _
    simp only [Int.toNat_natCast] at hm
    simp [ansD, stepD, cutS, hn, hnb, hm]
  have hcv : (S.A k).contains m = false := by simpa using hm
  clear hm
  clear h ho hn hnb
  unfold opV
  go_enter Try.func56, Try.ntmps56
  go_wp2_with fail
  refine (isNode_calls k _).mono ?_
  rintro x w2 ⟨rfl, hw2⟩
  have hw2' : w2 = gW w ⟨2, (k : Int), (m : Int), c, s, t⟩ := hw2
  have hgw : GW w ⟨2, (k : Int), (m : Int), c, s, t⟩ w2 := by rw [hw2']; exact gW_gw _ _
  obtain ⟨o0, o1, o2, r0, r1, r2, r3, fr⟩ := hgw.facts
  have HG : Hid (GW w ⟨2, (k : Int), (m : Int), c, s, t⟩ w2) := hgw
  have HC : Hid (Chg [] (gW w ⟨2, (k : Int), (m : Int), c, s, t⟩) w2) := by show Chg _ _ _; rw [hw2']; exact Chg.refl _ _
  obtain ⟨n, HH, TT, K', hgf⟩ := (H.out.chg (gW_chg _ ⟨2, (k : Int), (m : Int), c, s, t⟩ []) (by simp)).chg HC.out (by simp)
  have c0 : w2.cell? ⟨pg, 0, none⟩ = some (.slice (some ⟨pE, 0, none⟩) 64 64) := cell_of hgf.row rfl
  have ce := hgf.edge.cell (i := k * 8 + m) (by omega)
  rw [eF_at _ hm8] at ce
  have hfz := hgf.edge.froz (k * 8 + m)
  have HGF : Hid (GhF w2 pg pE pH pT pK n HH TT K' S) := hgf
  have hpE : pE < w.heap.size := H.out.lt pE (by simp [gb])
  have hpE2 : pE ≠ w.heap.size + 1 := by omega
  clear hw2 hw2' hgw hgf
  simp only at o0 o1 o2
  rw [HN.out]
  go_wp2_with fail
  refine (isNode_calls m _).mono ?_
  rintro x w3 ⟨rfl, hw3⟩
  obtain rfl : w2 = w3 := hw3.symm
  clear hw3
  rw [HNB.out]
  rw [hcv] at ce
  clear hcv
  go_wp2
  exact gr_end rfl rfl H.out (GStp.same (H.out.chg (gW_chg _ _ []) (by simp)) HC.out) HG.out rfl EA.out.1 EA.out.2

set_option maxHeartbeats 8000000 in
set_option maxRecDepth 4000 in
theorem gr_cut_yes {w : World} {pg pE pH pT pK : Nat} {S : WS} (h : GhAt w pg pE pH pT pK S) (ho : S.ok) (o : OpD) (hk : o.kind = 2) (hn : isN o.a = true) (hnb : isN o.b = true) (hm : o.b.toNat ∈ S.A o.a.toNat) : Calls Try.prog 56 #[pt pg, opV o] w (GrP pg pE pH pT pK S o w) := by
  have H : Hid (GhAt w pg pE pH pT pK S) := h
  have HO : Hid S.ok := ho
  obtain ⟨kind, a, b, c, s, t⟩ := o
  simp only at hk hn hnb
  subst hk
  have HN : Hid (isN a = true) := hn
  have HNB : Hid (isN b = true) := hnb
  obtain ⟨k, hk8, rfl⟩ := isN_iff.1 hn
  obtain ⟨m, hm8, rfl⟩ := isN_iff.1 hnb
  have EA : Hid (ansD S ⟨2, (k : Int), (m : Int), c, s, t⟩ = ⟨0, 0, 0, ⟨#[]⟩⟩ ∧ stepD S ⟨2, (k : Int), (m : Int), c, s, t⟩ 0 = { S with A := updA S.A k ((S.A k).erase m) }) := by
    show _ ∧ _
    simp only [Int.toNat_natCast] at hm
    simp [ansD, stepD, cutS, hn, hnb, hm]
  have hcv : (S.A k).contains m = true := by simpa using hm
  clear hm
  clear h ho hn hnb
  unfold opV
  go_enter Try.func56, Try.ntmps56
  go_wp2_with fail
  refine (isNode_calls k _).mono ?_
  rintro x w2 ⟨rfl, hw2⟩
  have hw2' : w2 = gW w ⟨2, (k : Int), (m : Int), c, s, t⟩ := hw2
  have hgw : GW w ⟨2, (k : Int), (m : Int), c, s, t⟩ w2 := by rw [hw2']; exact gW_gw _ _
  obtain ⟨o0, o1, o2, r0, r1, r2, r3, fr⟩ := hgw.facts
  have HG : Hid (GW w ⟨2, (k : Int), (m : Int), c, s, t⟩ w2) := hgw
  have HC : Hid (Chg [] (gW w ⟨2, (k : Int), (m : Int), c, s, t⟩) w2) := by show Chg _ _ _; rw [hw2']; exact Chg.refl _ _
  obtain ⟨n, HH, TT, K', hgf⟩ := (H.out.chg (gW_chg _ ⟨2, (k : Int), (m : Int), c, s, t⟩ []) (by simp)).chg HC.out (by simp)
  have c0 : w2.cell? ⟨pg, 0, none⟩ = some (.slice (some ⟨pE, 0, none⟩) 64 64) := cell_of hgf.row rfl
  have ce := hgf.edge.cell (i := k * 8 + m) (by omega)
  rw [eF_at _ hm8] at ce
  have hfz := hgf.edge.froz (k * 8 + m)
  have HGF : Hid (GhF w2 pg pE pH pT pK n HH TT K' S) := hgf
  have hpE : pE < w.heap.size := H.out.lt pE (by simp [gb])
  have hpE2 : pE ≠ w.heap.size + 1 := by omega
  clear hw2 hw2' hgw hgf
  simp only at o0 o1 o2
  rw [HN.out]
  go_wp2_with fail
  refine (isNode_calls m _).mono ?_
  rintro x w3 ⟨rfl, hw3⟩
  obtain rfl : w2 = w3 := hw3.symm
  clear hw3
  rw [HNB.out]
  rw [hcv] at ce
  clear hcv
  have hst : GStp pg pE pH pT pK { S with A := updA S.A k ((S.A k).erase m) } w2 (w2.setCell ⟨pE, k * 8 + m, none⟩ (.bool false)) := HGF.out.setE hk8 hm8 (by
    intro c hc
    have hnd := HO.out.aok.one k
    by_cases e : c = m
    · subst e
      rw [if_pos rfl]
      simp [hnd.mem_erase_iff]
    · rw [if_neg e]
      simp [hnd.mem_erase_iff, e])
  have HST : Hid (GStp pg pE pH pT pK { S with A := updA S.A k ((S.A k).erase m) } (gW w ⟨2, (k : Int), (m : Int), c, s, t⟩) (w2.setCell ⟨pE, k * 8 + m, none⟩ (.bool false))) := ⟨hst.at_, HC.out.any.trans hst.chg⟩
  have HGW2 : Hid (GW w ⟨2, (k : Int), (m : Int), c, s, t⟩ (w2.setCell ⟨pE, k * 8 + m, none⟩ (.bool false))) := HG.out.chg (bs := [pE]) ((Chg.refl _ _).setCell (Or.inl (by simp)) _) (by simpa using hpE)
  clear hst
  go_wp2
  exact gr_end rfl rfl H.out HST.out HGW2.out rfl EA.out.1 EA.out.2

set_option maxHeartbeats 8000000 in
set_option maxRecDepth 4000 in
theorem gr_link_dup {w : World} {pg pE pH pT pK : Nat} {S : WS} (h : GhAt w pg pE pH pT pK S) (ho : S.ok) (o : OpD) (hk : o.kind = 1) (hn : isN o.a = true) (hnb : isN o.b = true) (hm : o.b.toNat ∈ S.A o.a.toNat) : Calls Try.prog 56 #[pt pg, opV o] w (GrP pg pE pH pT pK S o w) := by
  have H : Hid (GhAt w pg pE pH pT pK S) := h
  have HO : Hid S.ok := ho
  obtain ⟨kind, a, b, c, s, t⟩ := o
  simp only at hk hn hnb
  subst hk
  have HN : Hid (isN a = true) := hn
  have HNB : Hid (isN b = true) := hnb
  obtain ⟨k, hk8, rfl⟩ := isN_iff.1 hn
  obtain ⟨m, hm8, rfl⟩ := isN_iff.1 hnb
  have EA : Hid (ansD S ⟨1, (k : Int), (m : Int), c, s, t⟩ = ⟨2, 0, 0, ⟨#[]⟩⟩ ∧ stepD S ⟨1, (k : Int), (m : Int), c, s, t⟩ 0 = S) := by
    show _ ∧ _
    simp only [Int.toNat_natCast] at hm
    simp [ansD, stepD, linkS, hn, hnb, hm]
  have hcv : (S.A k).contains m = true := by simpa using hm
  clear hm
  clear h ho hn hnb
  unfold opV
  go_enter Try.func56, Try.ntmps56
  go_wp2_with fail
  refine (isNode_calls k _).mono ?_
  rintro x w2 ⟨rfl, hw2⟩
  have hw2' : w2 = gW w ⟨1, (k : Int), (m : Int), c, s, t⟩ := hw2
  have hgw : GW w ⟨1, (k : Int), (m : Int), c, s, t⟩ w2 := by rw [hw2']; exact gW_gw _ _
  obtain ⟨o0, o1, o2, r0, r1, r2, r3, fr⟩ := hgw.facts
  have HG : Hid (GW w ⟨1, (k : Int), (m : Int), c, s, t⟩ w2) := hgw
  have HC : Hid (Chg [] (gW w ⟨1, (k : Int), (m : Int), c, s, t⟩) w2) := by show Chg _ _ _; rw [hw2']; exact Chg.refl _ _
  obtain ⟨n, HH, TT, K', hgf⟩ := (H.out.chg (gW_chg _ ⟨1, (k : Int), (m : Int), c, s, t⟩ []) (by simp)).chg HC.out (by simp)
  have c0 : w2.cell? ⟨pg, 0, none⟩ = some (.slice (some ⟨pE, 0, none⟩) 64 64) := cell_of hgf.row rfl
  have ce := hgf.edge.cell (i := k * 8 + m) (by omega)
  rw [eF_at _ hm8] at ce
  have hfz := hgf.edge.froz (k * 8 + m)
  have HGF : Hid (GhF w2 pg pE pH pT pK n HH TT K' S) := hgf
  have hpE : pE < w.heap.size := H.out.lt pE (by simp [gb])
  have hpE2 : pE ≠ w.heap.size + 1 := by omega
  clear hw2 hw2' hgw hgf
  simp only at o0 o1 o2
  rw [HN.out]
  go_wp2_with fail
  refine (isNode_calls m _).mono ?_
  rintro x w3 ⟨rfl, hw3⟩
  obtain rfl : w2 = w3 := hw3.symm
  clear hw3
  rw [HNB.out]
  rw [hcv] at ce
  clear hcv
  go_wp2
  exact gr_end rfl rfl H.out (GStp.same (H.out.chg (gW_chg _ _ []) (by simp)) HC.out) HG.out rfl EA.out.1 EA.out.2

set_option maxHeartbeats 8000000 in
set_option maxRecDepth 4000 in
theorem gr_link_new {w : World} {pg pE pH pT pK : Nat} {S : WS} (h : GhAt w pg pE pH pT pK S) (ho : S.ok) (o : OpD) (hk : o.kind = 1) (hn : isN o.a = true) (hnb : isN o.b = true) (hm : o.b.toNat ∉ S.A o.a.toNat) : Calls Try.prog 56 #[pt pg, opV o] w (GrP pg pE pH pT pK S o w) := by
  have H : Hid (GhAt w pg pE pH pT pK S) := h
  have HO : Hid S.ok := ho
  obtain ⟨kind, a, b, c, s, t⟩ := o
  simp only at hk hn hnb
  subst hk
  have HN : Hid (isN a = true) := hn
  have HNB : Hid (isN b = true) := hnb
  obtain ⟨k, hk8, rfl⟩ := isN_iff.1 hn
  obtain ⟨m, hm8, rfl⟩ := isN_iff.1 hnb
  have EA : Hid (if 3 ≤ (S.A k).length then ansD S ⟨1, (k : Int), (m : Int), c, s, t⟩ = ⟨3, 0, 0, ⟨#[]⟩⟩ ∧ stepD S ⟨1, (k : Int), (m : Int), c, s, t⟩ 0 = S else ansD S ⟨1, (k : Int), (m : Int), c, s, t⟩ = ⟨0, 0, 0, ⟨#[]⟩⟩ ∧ stepD S ⟨1, (k : Int), (m : Int), c, s, t⟩ 0 = { S with A := updA S.A k (S.A k ++ [m]) }) := by
    show if _ then _ else _
    simp only [Int.toNat_natCast] at hm
    by_cases h3 : 3 ≤ (S.A k).length
    · rw [if_pos h3]
      simp [ansD, stepD, linkS, hn, hnb, hm, h3]
    · rw [if_neg h3]
      simp [ansD, stepD, linkS, hn, hnb, hm, h3]
  have hcv : (S.A k).contains m = false := by simpa using hm
  have HE8 : Hid (oc (S.A k) 8 = (S.A k).length) := oc_eight ho.aok k
  clear hm
  clear h ho hn hnb
  unfold opV
  go_enter Try.func56, Try.ntmps56
  go_wp2_with fail
  refine (isNode_calls k _).mono ?_
  rintro x w2 ⟨rfl, hw2⟩
  have hw2' : w2 = gW w ⟨1, (k : Int), (m : Int), c, s, t⟩ := hw2
  have hgw : GW w ⟨1, (k : Int), (m : Int), c, s, t⟩ w2 := by rw [hw2']; exact gW_gw _ _
  obtain ⟨o0, o1, o2, r0, r1, r2, r3, fr⟩ := hgw.facts
  have HG : Hid (GW w ⟨1, (k : Int), (m : Int), c, s, t⟩ w2) := hgw
  have HC : Hid (Chg [] (gW w ⟨1, (k : Int), (m : Int), c, s, t⟩) w2) := by show Chg _ _ _; rw [hw2']; exact Chg.refl _ _
  obtain ⟨n, HH, TT, K', hgf⟩ := (H.out.chg (gW_chg _ ⟨1, (k : Int), (m : Int), c, s, t⟩ []) (by simp)).chg HC.out (by simp)
  have c0 : w2.cell? ⟨pg, 0, none⟩ = some (.slice (some ⟨pE, 0, none⟩) 64 64) := cell_of hgf.row rfl
  have ce := hgf.edge.cell (i := k * 8 + m) (by omega)
  rw [eF_at _ hm8] at ce
  have hfz := hgf.edge.froz (k * 8 + m)
  have HGF : Hid (GhF w2 pg pE pH pT pK n HH TT K' S) := hgf
  have hpE : pE < w.heap.size := H.out.lt pE (by simp [gb])
  have hpE2 : pE ≠ w.heap.size + 1 := by omega
  clear hw2 hw2' hgw hgf
  simp only at o0 o1 o2
  rw [HN.out]
  go_wp2_with fail
  refine (isNode_calls m _).mono ?_
  rintro x w3 ⟨rfl, hw3⟩
  obtain rfl : w2 = w3 := hw3.symm
  clear hw3
  rw [HNB.out]
  rw [hcv] at ce
  clear hcv
  have hst : GStp pg pE pH pT pK { S with A := updA S.A k (S.A k ++ [m]) } w2 (w2.setCell ⟨pE, k * 8 + m, none⟩ (.bool true)) := HGF.out.setE hk8 hm8 (by
    intro c hc
    by_cases e : c = m
    · subst e; simp
    · rw [if_neg e]
      simp [e])
  have HCE : Hid (∀ W, Chg [] w2 W → GW w ⟨1, (k : Int), (m : Int), c, s, t⟩ W ∧ GhF W pg pE pH pT pK n HH TT K' S) := fun W hW => ⟨HG.out.chg hW (by simp), HGF.out.chg hW (by simp)⟩
  clear hst
  go_wp2_with fail
  clear o0 o1 o2 r0 r1 r2 r3 fr c0 ce hfz
  go_loopw [12, 13] (fun v12 v13 wr => ∃ i : Nat, i ≤ 8 ∧ v13 = .int .i64 i ∧ v12 = .int .i64 (oc (S.A k) i : Nat) ∧ Chg [] w2 wr) (fun _ v13 _ => (8 - intOf v13).toNat)
  case atStart => exact ⟨0, by omega, rfl, rfl, Chg.refl _ _⟩
  case round =>
    obtain ⟨i, hi8, rfl, rfl, hci⟩ := hrel
    rename World => wI
    have hol := oc_le (S.A k) i
    obtain ⟨hgwI, hgfI⟩ := HCE.out wI hci
    obtain ⟨o0, o1, o2, r0, r1, r2, r3, fr⟩ := hgwI.facts
    simp only at o0 o1 o2
    have c0 : wI.cell? ⟨pg, 0, none⟩ = some (.slice (some ⟨pE, 0, none⟩) 64 64) := cell_of hgfI.row rfl
    have HCI : Hid (Chg [] w2 wI) := hci
    have HGI : Hid (GW w ⟨1, (k : Int), (m : Int), c, s, t⟩ wI ∧ GhF wI pg pE pH pT pK n HH TT K' S) := ⟨hgwI, hgfI⟩
    by_cases h8 : i < 8
    · have ce := hgfI.edge.cell (i := k * 8 + i) (by omega)
      rw [eF_at _ h8] at ce
      have HS : Hid (oc (S.A k) (i + 1) = oc (S.A k) i + if (S.A k).contains i = true then 1 else 0) := oc_succ _ _
      clear hci hgwI hgfI
      generalize oc (S.A k) i = q at *
      cases hcv : (S.A k).contains i with
      | true =>
        rw [hcv] at ce
        have HS2 : Hid (oc (S.A k) (i + 1) = q + 1) := by have := HS.out; rw [hcv, if_pos rfl] at this; exact this
        clear HS
        go_wp2_with fail
        go_quiet (fail)
        go_wp2
        go_roundw
        case rel =>
          first
          | exact ⟨i + 1, by omega, by simp, by rw [HS2.out]; simp, HCI.out.drewN _⟩
          | ((repeat apply Exists.intro); refine ⟨?_, rfl⟩; exact ⟨i + 1, by omega, by simp, by rw [HS2.out]; simp, HCI.out.drewN _⟩)
        case measure => simp [intOf]; omega
      | false =>
        rw [hcv] at ce
        have HS2 : Hid (oc (S.A k) (i + 1) = q) := by show _ = _; have := HS.out; rw [hcv] at this; simpa using this
        clear HS
        go_wp2_with fail
        go_quiet (fail)
        go_wp2
        go_roundw
        case rel =>
          first
          | exact ⟨i + 1, by omega, by simp, by rw [HS2.out], HCI.out.drewN _⟩
          | ((repeat apply Exists.intro); refine ⟨?_, rfl⟩; exact ⟨i + 1, by omega, by simp, by rw [HS2.out], HCI.out.drewN _⟩)
        case measure => simp [intOf]; omega
    · obtain rfl : i = 8 := by omega
      by_cases hful : 3 ≤ (S.A k).length
      · have d : 3 ≤ oc (S.A k) 8 := by rw [HE8.out]; exact hful
        have EA2 : Hid (ansD S ⟨1, (k : Int), (m : Int), c, s, t⟩ = ⟨3, 0, 0, ⟨#[]⟩⟩ ∧ stepD S ⟨1, (k : Int), (m : Int), c, s, t⟩ 0 = S) := by have := EA.out; rw [if_pos hful] at this; exact this
        clear hful hci hgwI hgfI
        generalize oc (S.A k) 8 = q at *
        go_wp2
        exact gr_end rfl rfl H.out (GStp.same (H.out.chg (gW_chg _ _ []) (by simp)) (HC.out.trans HCI.out)) HGI.out.1 rfl EA2.out.1 EA2.out.2
      · have d : oc (S.A k) 8 < 3 := by rw [HE8.out]; omega
        have EA2 : Hid (ansD S ⟨1, (k : Int), (m : Int), c, s, t⟩ = ⟨0, 0, 0, ⟨#[]⟩⟩ ∧ stepD S ⟨1, (k : Int), (m : Int), c, s, t⟩ 0 = { S with A := updA S.A k (S.A k ++ [m]) }) := by have := EA.out; rw [if_neg hful] at this; exact this
        have ce := hgfI.edge.cell (i := k * 8 + m) (by omega)
        have hfz := hgfI.edge.froz (k * 8 + m)
        have hst : GStp pg pE pH pT pK { S with A := updA S.A k (S.A k ++ [m]) } wI (wI.setCell ⟨pE, k * 8 + m, none⟩ (.bool true)) := hgfI.setE hk8 hm8 (by
          intro c hc
          by_cases e : c = m
          · subst e; simp
          · rw [if_neg e]
            simp [e])
        have HST : Hid (GStp pg pE pH pT pK { S with A := updA S.A k (S.A k ++ [m]) } (gW w ⟨1, (k : Int), (m : Int), c, s, t⟩) (wI.setCell ⟨pE, k * 8 + m, none⟩ (.bool true))) := ⟨hst.at_, (HC.out.trans HCI.out).any.trans hst.chg⟩
        have HGW2 : Hid (GW w ⟨1, (k : Int), (m : Int), c, s, t⟩ (wI.setCell ⟨pE, k * 8 + m, none⟩ (.bool true))) := hgwI.chg (bs := [pE]) ((Chg.refl _ _).setCell (Or.inl (by simp)) _) (by simpa using hpE)
        clear hci hgwI hgfI hst
        generalize oc (S.A k) 8 = q at *
        generalize eF S.A (k * 8 + m) = old at *
        go_wp2
        exact gr_end rfl rfl H.out HST.out HGW2.out rfl EA2.out.1 EA2.out.2

theorem graph_calls {w : World} {pg pE pH pT pK : Nat} {S : WS} (h : GhAt w pg pE pH pT pK S) (ho : S.ok) (o : OpD) (hk : o.kind = 1 ∨ o.kind = 2 ∨ o.kind = 3 ∨ o.kind = 4) : Calls Try.prog 56 #[pt pg, opV o] w (GrP pg pE pH pT pK S o w) := by
  cases hn : isN o.a with
  | false => exact gr_bad h o hk hn
  | true =>
    rcases hk with e | e | e | e
    · cases hnb : isN o.b with
      | false => exact gr_badb h o (Or.inl e) hn hnb
      | true =>
        by_cases hm : o.b.toNat ∈ S.A o.a.toNat
        · exact gr_link_dup h ho o e hn hnb hm
        · exact gr_link_new h ho o e hn hnb hm
    · cases hnb : isN o.b with
      | false => exact gr_badb h o (Or.inr e) hn hnb
      | true =>
        by_cases hm : o.b.toNat ∈ S.A o.a.toNat
        · exact gr_cut_yes h ho o e hn hnb hm
        · exact gr_cut_no h ho o e hn hnb hm
    · exact gr_reach h ho o e hn
    · exact gr_twins h ho o e hn
end Go.Proofs.Qxb6500374a.W
