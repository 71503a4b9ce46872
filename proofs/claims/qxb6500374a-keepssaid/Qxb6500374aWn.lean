import Derived.Test.Qxb6500374aRu
import Derived.Test.Qxb6500374aSn
import Derived.BigRegion
set_option linter.unusedVariables false
set_option linter.unusedSimpArgs false
namespace Go.Proofs.Qxb6500374a.W
open Go.RowKit Go.Maps

set_option maxHeartbeats 8000000 in
set_option maxRecDepth 4000 in
theorem wn_1 {w : World} {pg pE pH pT pK : Nat} {S : WS} (h : GhAt w pg pE pH pT pK S) (ho : S.ok) (hcap : ∀ j, j < 7 → S.cn j < 4611686018427387904) (o : OpD) (hk : o.kind = 1) : Calls Try.prog 50 #[pt pg, opV o] w (GrP pg pE pH pT pK S o w) := by
  have H : Hid (GhAt w pg pE pH pT pK S) := h
  have HO : Hid S.ok := ho
  have HCAP : Hid (∀ j, j < 7 → S.cn j < 4611686018427387904) := hcap
  obtain ⟨kind, a, b, c, s, t⟩ := o
  simp only at hk
  subst hk
  clear h ho hcap
  unfold opV
  go_enter Try.func50, Try.ntmps50
  go_wp2_with fail
  refine (graph_calls (H.out.chg (gW_chg w ⟨1, a, b, c, s, t⟩ []) (by simp)) HO.out ⟨1, a, b, c, s, t⟩ (by simp)).mono ?_
  rintro x w2 ⟨rfl, hst⟩
  generalize hr : ansD S ⟨1, a, b, c, s, t⟩ = rr
  have HR : Hid (ansD S ⟨1, a, b, c, s, t⟩ = rr) := hr
  clear hr
  rw [ansV]
  have hgw : GW w ⟨1, a, b, c, s, t⟩ w2 := (gW_gw w ⟨1, a, b, c, s, t⟩).chg hst.chg H.out.lt
  obtain ⟨o0, o1, o2, r0, r1, r2, r3, fr⟩ := hgw.facts
  simp only at o0 o1 o2
  have HG : Hid (GW w ⟨1, a, b, c, s, t⟩ w2) := hgw
  have HST : Hid (GStp pg pE pH pT pK (stepD S ⟨1, a, b, c, s, t⟩ 0) (gW w ⟨1, a, b, c, s, t⟩) w2) := hst
  clear hgw hst
  go_wp2
  exact gr_end rfl rfl H.out HST.out HG.out rfl HR.out rfl

set_option maxHeartbeats 8000000 in
set_option maxRecDepth 4000 in
theorem wn_2 {w : World} {pg pE pH pT pK : Nat} {S : WS} (h : GhAt w pg pE pH pT pK S) (ho : S.ok) (hcap : ∀ j, j < 7 → S.cn j < 4611686018427387904) (o : OpD) (hk : o.kind = 2) : Calls Try.prog 50 #[pt pg, opV o] w (GrP pg pE pH pT pK S o w) := by
  have H : Hid (GhAt w pg pE pH pT pK S) := h
  have HO : Hid S.ok := ho
  have HCAP : Hid (∀ j, j < 7 → S.cn j < 4611686018427387904) := hcap
  obtain ⟨kind, a, b, c, s, t⟩ := o
  simp only at hk
  subst hk
  clear h ho hcap
  unfold opV
  go_enter Try.func50, Try.ntmps50
  go_wp2_with fail
  refine (graph_calls (H.out.chg (gW_chg w ⟨2, a, b, c, s, t⟩ []) (by simp)) HO.out ⟨2, a, b, c, s, t⟩ (by simp)).mono ?_
  rintro x w2 ⟨rfl, hst⟩
  generalize hr : ansD S ⟨2, a, b, c, s, t⟩ = rr
  have HR : Hid (ansD S ⟨2, a, b, c, s, t⟩ = rr) := hr
  clear hr
  rw [ansV]
  have hgw : GW w ⟨2, a, b, c, s, t⟩ w2 := (gW_gw w ⟨2, a, b, c, s, t⟩).chg hst.chg H.out.lt
  obtain ⟨o0, o1, o2, r0, r1, r2, r3, fr⟩ := hgw.facts
  simp only at o0 o1 o2
  have HG : Hid (GW w ⟨2, a, b, c, s, t⟩ w2) := hgw
  have HST : Hid (GStp pg pE pH pT pK (stepD S ⟨2, a, b, c, s, t⟩ 0) (gW w ⟨2, a, b, c, s, t⟩) w2) := hst
  clear hgw hst
  go_wp2
  exact gr_end rfl rfl H.out HST.out HG.out rfl HR.out rfl

set_option maxHeartbeats 8000000 in
set_option maxRecDepth 4000 in
theorem wn_3 {w : World} {pg pE pH pT pK : Nat} {S : WS} (h : GhAt w pg pE pH pT pK S) (ho : S.ok) (hcap : ∀ j, j < 7 → S.cn j < 4611686018427387904) (o : OpD) (hk : o.kind = 3) : Calls Try.prog 50 #[pt pg, opV o] w (GrP pg pE pH pT pK S o w) := by
  have H : Hid (GhAt w pg pE pH pT pK S) := h
  have HO : Hid S.ok := ho
  have HCAP : Hid (∀ j, j < 7 → S.cn j < 4611686018427387904) := hcap
  obtain ⟨kind, a, b, c, s, t⟩ := o
  simp only at hk
  subst hk
  clear h ho hcap
  unfold opV
  go_enter Try.func50, Try.ntmps50
  go_wp2_with fail
  refine (graph_calls (H.out.chg (gW_chg w ⟨3, a, b, c, s, t⟩ []) (by simp)) HO.out ⟨3, a, b, c, s, t⟩ (by simp)).mono ?_
  rintro x w2 ⟨rfl, hst⟩
  generalize hr : ansD S ⟨3, a, b, c, s, t⟩ = rr
  have HR : Hid (ansD S ⟨3, a, b, c, s, t⟩ = rr) := hr
  clear hr
  rw [ansV]
  have hgw : GW w ⟨3, a, b, c, s, t⟩ w2 := (gW_gw w ⟨3, a, b, c, s, t⟩).chg hst.chg H.out.lt
  obtain ⟨o0, o1, o2, r0, r1, r2, r3, fr⟩ := hgw.facts
  simp only at o0 o1 o2
  have HG : Hid (GW w ⟨3, a, b, c, s, t⟩ w2) := hgw
  have HST : Hid (GStp pg pE pH pT pK (stepD S ⟨3, a, b, c, s, t⟩ 0) (gW w ⟨3, a, b, c, s, t⟩) w2) := hst
  clear hgw hst
  go_wp2
  exact gr_end rfl rfl H.out HST.out HG.out rfl HR.out rfl

set_option maxHeartbeats 8000000 in
set_option maxRecDepth 4000 in
theorem wn_4 {w : World} {pg pE pH pT pK : Nat} {S : WS} (h : GhAt w pg pE pH pT pK S) (ho : S.ok) (hcap : ∀ j, j < 7 → S.cn j < 4611686018427387904) (o : OpD) (hk : o.kind = 4) : Calls Try.prog 50 #[pt pg, opV o] w (GrP pg pE pH pT pK S o w) := by
  have H : Hid (GhAt w pg pE pH pT pK S) := h
  have HO : Hid S.ok := ho
  have HCAP : Hid (∀ j, j < 7 → S.cn j < 4611686018427387904) := hcap
  obtain ⟨kind, a, b, c, s, t⟩ := o
  simp only at hk
  subst hk
  clear h ho hcap
  unfold opV
  go_enter Try.func50, Try.ntmps50
  go_wp2_with fail
  refine (graph_calls (H.out.chg (gW_chg w ⟨4, a, b, c, s, t⟩ []) (by simp)) HO.out ⟨4, a, b, c, s, t⟩ (by simp)).mono ?_
  rintro x w2 ⟨rfl, hst⟩
  generalize hr : ansD S ⟨4, a, b, c, s, t⟩ = rr
  have HR : Hid (ansD S ⟨4, a, b, c, s, t⟩ = rr) := hr
  clear hr
  rw [ansV]
  have hgw : GW w ⟨4, a, b, c, s, t⟩ w2 := (gW_gw w ⟨4, a, b, c, s, t⟩).chg hst.chg H.out.lt
  obtain ⟨o0, o1, o2, r0, r1, r2, r3, fr⟩ := hgw.facts
  simp only at o0 o1 o2
  have HG : Hid (GW w ⟨4, a, b, c, s, t⟩ w2) := hgw
  have HST : Hid (GStp pg pE pH pT pK (stepD S ⟨4, a, b, c, s, t⟩ 0) (gW w ⟨4, a, b, c, s, t⟩) w2) := hst
  clear hgw hst
  go_wp2
  exact gr_end rfl rfl H.out HST.out HG.out rfl HR.out rfl

set_option maxHeartbeats 8000000 in
set_option maxRecDepth 4000 in
theorem wn_5 {w : World} {pg pE pH pT pK : Nat} {S : WS} (h : GhAt w pg pE pH pT pK S) (ho : S.ok) (hcap : ∀ j, j < 7 → S.cn j < 4611686018427387904) (o : OpD) (hk : o.kind = 5) : Calls Try.prog 50 #[pt pg, opV o] w (GrP pg pE pH pT pK S o w) := by
  have H : Hid (GhAt w pg pE pH pT pK S) := h
  have HO : Hid S.ok := ho
  have HCAP : Hid (∀ j, j < 7 → S.cn j < 4611686018427387904) := hcap
  obtain ⟨kind, a, b, c, s, t⟩ := o
  simp only at hk
  subst hk
  clear h ho hcap
  unfold opV
  go_enter Try.func50, Try.ntmps50
  go_wp2_with fail
  refine (rates_calls (H.out.chg (gW_chg w ⟨5, a, b, c, s, t⟩ []) (by simp)) HO.out HCAP.out ⟨5, a, b, c, s, t⟩ (by simp)).mono ?_
  rintro x w2 ⟨rfl, hst⟩
  generalize hr : ansD S ⟨5, a, b, c, s, t⟩ = rr
  have HR : Hid (ansD S ⟨5, a, b, c, s, t⟩ = rr) := hr
  clear hr
  rw [ansV]
  have hgw : GW w ⟨5, a, b, c, s, t⟩ w2 := (gW_gw w ⟨5, a, b, c, s, t⟩).chg hst.chg H.out.lt
  obtain ⟨o0, o1, o2, r0, r1, r2, r3, fr⟩ := hgw.facts
  simp only at o0 o1 o2
  have HG : Hid (GW w ⟨5, a, b, c, s, t⟩ w2) := hgw
  have HST : Hid (GStp pg pE pH pT pK (stepD S ⟨5, a, b, c, s, t⟩ 0) (gW w ⟨5, a, b, c, s, t⟩) w2) := hst
  clear hgw hst
  go_wp2
  exact gr_end rfl rfl H.out HST.out HG.out rfl HR.out rfl

set_option maxHeartbeats 8000000 in
set_option maxRecDepth 4000 in
theorem wn_6 {w : World} {pg pE pH pT pK : Nat} {S : WS} (h : GhAt w pg pE pH pT pK S) (ho : S.ok) (hcap : ∀ j, j < 7 → S.cn j < 4611686018427387904) (o : OpD) (hk : o.kind = 6) : Calls Try.prog 50 #[pt pg, opV o] w (GrP pg pE pH pT pK S o w) := by
  have H : Hid (GhAt w pg pE pH pT pK S) := h
  have HO : Hid S.ok := ho
  have HCAP : Hid (∀ j, j < 7 → S.cn j < 4611686018427387904) := hcap
  obtain ⟨kind, a, b, c, s, t⟩ := o
  simp only at hk
  subst hk
  clear h ho hcap
  unfold opV
  go_enter Try.func50, Try.ntmps50
  go_wp2_with fail
  refine (rates_calls (H.out.chg (gW_chg w ⟨6, a, b, c, s, t⟩ []) (by simp)) HO.out HCAP.out ⟨6, a, b, c, s, t⟩ (by simp)).mono ?_
  rintro x w2 ⟨rfl, hst⟩
  generalize hr : ansD S ⟨6, a, b, c, s, t⟩ = rr
  have HR : Hid (ansD S ⟨6, a, b, c, s, t⟩ = rr) := hr
  clear hr
  rw [ansV]
  have hgw : GW w ⟨6, a, b, c, s, t⟩ w2 := (gW_gw w ⟨6, a, b, c, s, t⟩).chg hst.chg H.out.lt
  obtain ⟨o0, o1, o2, r0, r1, r2, r3, fr⟩ := hgw.facts
  simp only at o0 o1 o2
  have HG : Hid (GW w ⟨6, a, b, c, s, t⟩ w2) := hgw
  have HST : Hid (GStp pg pE pH pT pK (stepD S ⟨6, a, b, c, s, t⟩ 0) (gW w ⟨6, a, b, c, s, t⟩) w2) := hst
  clear hgw hst
  go_wp2
  exact gr_end rfl rfl H.out HST.out HG.out rfl HR.out rfl

set_option maxHeartbeats 8000000 in
set_option maxRecDepth 4000 in
theorem wn_7 {w : World} {pg pE pH pT pK : Nat} {S : WS} (h : GhAt w pg pE pH pT pK S) (ho : S.ok) (hcap : ∀ j, j < 7 → S.cn j < 4611686018427387904) (o : OpD) (hk : o.kind = 7) : Calls Try.prog 50 #[pt pg, opV o] w (GrP pg pE pH pT pK S o w) := by
  have H : Hid (GhAt w pg pE pH pT pK S) := h
  have HO : Hid S.ok := ho
  have HCAP : Hid (∀ j, j < 7 → S.cn j < 4611686018427387904) := hcap
  obtain ⟨kind, a, b, c, s, t⟩ := o
  simp only at hk
  subst hk
  clear h ho hcap
  unfold opV
  go_enter Try.func50, Try.ntmps50
  go_wp2_with fail
  refine (rates_calls (H.out.chg (gW_chg w ⟨7, a, b, c, s, t⟩ []) (by simp)) HO.out HCAP.out ⟨7, a, b, c, s, t⟩ (by simp)).mono ?_
  rintro x w2 ⟨rfl, hst⟩
  generalize hr : ansD S ⟨7, a, b, c, s, t⟩ = rr
  have HR : Hid (ansD S ⟨7, a, b, c, s, t⟩ = rr) := hr
  clear hr
  rw [ansV]
  have hgw : GW w ⟨7, a, b, c, s, t⟩ w2 := (gW_gw w ⟨7, a, b, c, s, t⟩).chg hst.chg H.out.lt
  obtain ⟨o0, o1, o2, r0, r1, r2, r3, fr⟩ := hgw.facts
  simp only at o0 o1 o2
  have HG : Hid (GW w ⟨7, a, b, c, s, t⟩ w2) := hgw
  have HST : Hid (GStp pg pE pH pT pK (stepD S ⟨7, a, b, c, s, t⟩ 0) (gW w ⟨7, a, b, c, s, t⟩) w2) := hst
  clear hgw hst
  go_wp2
  exact gr_end rfl rfl H.out HST.out HG.out rfl HR.out rfl

set_option maxHeartbeats 8000000 in
set_option maxRecDepth 4000 in
theorem wn_8 {w : World} {pg pE pH pT pK : Nat} {S : WS} (h : GhAt w pg pE pH pT pK S) (ho : S.ok) (hcap : ∀ j, j < 7 → S.cn j < 4611686018427387904) (o : OpD) (hk : o.kind = 8) : Calls Try.prog 50 #[pt pg, opV o] w (GrP pg pE pH pT pK S o w) := by
  have H : Hid (GhAt w pg pE pH pT pK S) := h
  have HO : Hid S.ok := ho
  have HCAP : Hid (∀ j, j < 7 → S.cn j < 4611686018427387904) := hcap
  obtain ⟨kind, a, b, c, s, t⟩ := o
  simp only at hk
  subst hk
  obtain ⟨n, HH, TT, KZ, hgf⟩ := h
  have hnum := hgf.ok.num
  have hsm := ho.small
  have HOK : Hid (GOk n HH TT KZ S.cn) := hgf.ok
  have HNUM : Hid (n = nums S.cn) := hnum
  have hra : RA w ⟨8, a, b, c, s, t⟩ pg pE pH pT pK n S.nn HH TT KZ S.A (gW w ⟨8, a, b, c, s, t⟩) := RA.start hgf
  have hn10 : n ≤ 10 := by omega
  have hnn10 : S.nn ≤ 10 := by omega
  have hn7 : n ≤ 7 := by have := nodup_lt_length (l := (List.range 7).filter fun k => decide (0 < S.cn k)) (List.Pairwise.filter _ List.nodup_range) (n := 7) (fun x hx => List.mem_range.1 (List.mem_filter.1 hx).1); rw [nums_filter] at this; omega
  have hpgn : pg < w.heap.size := hra.lt pg (by simp [gb])
  have hpgR : pg ≠ w.heap.size + 1 := by omega
  have EA : Hid (ansD S ⟨8, a, b, c, s, t⟩ = ⟨0, (n : Int) + (S.nn : Int), 0, ⟨#[]⟩⟩ ∧ stepD S ⟨8, a, b, c, s, t⟩ 0 = S) := by
    show _ ∧ _
    have e : sizeS S = (n : Int) + (S.nn : Int) := by unfold sizeS; omega
    simp [ansD, stepD, e]
  clear hgf ho hsm hnum hcap
  unfold opV
  go_enter Try.func50, Try.ntmps50
  go_upto_region 1 with fail
  change Code.wp Try.prog _ _ _ (gW w ⟨8, a, b, c, s, t⟩)
  generalize gW w ⟨8, a, b, c, s, t⟩ = W0 at hra ⊢
  obtain ⟨c1, c2, c3, c4, c5, fg⟩ := hra.c.facts
  obtain ⟨o0, o1, o2, r0, r1, r2, r3, fr⟩ := hra.g.facts
  simp only at o0 o1 o2
  have HRA : Hid (RA w ⟨8, a, b, c, s, t⟩ pg pE pH pT pK n S.nn HH TT KZ S.A W0) := hra
  clear hra
  go_wp2_with fail
  go_region
  all_goals (try go_wp2)
  first
  | exact ra_endD rfl rfl H.out HRA.out HOK.out rfl EA.out.1 EA.out.2
  | exact ra_end rfl rfl H.out HRA.out HOK.out rfl EA.out.1 EA.out.2
set_option maxHeartbeats 8000000 in
set_option maxRecDepth 4000 in
theorem wn_9 {w : World} {pg pE pH pT pK : Nat} {S : WS} (h : GhAt w pg pE pH pT pK S) (ho : S.ok) (hcap : ∀ j, j < 7 → S.cn j < 4611686018427387904) (o : OpD) (hk : o.kind = 9) : Calls Try.prog 50 #[pt pg, opV o] w (GrP pg pE pH pT pK S o w) := by
  have H : Hid (GhAt w pg pE pH pT pK S) := h
  have HO : Hid S.ok := ho
  have HCAP : Hid (∀ j, j < 7 → S.cn j < 4611686018427387904) := hcap
  obtain ⟨kind, a, b, c, s, t⟩ := o
  simp only at hk
  subst hk
  obtain ⟨n, HH, TT, KZ, hgf⟩ := h
  have hnum := hgf.ok.num
  have hsm := ho.small
  have HOK : Hid (GOk n HH TT KZ S.cn) := hgf.ok
  have HNUM : Hid (n = nums S.cn) := hnum
  have hra : RA w ⟨9, a, b, c, s, t⟩ pg pE pH pT pK n S.nn HH TT KZ S.A (gW w ⟨9, a, b, c, s, t⟩) := RA.start hgf
  have hn10 : n ≤ 10 := by omega
  have hnn10 : S.nn ≤ 10 := by omega
  have hn7 : n ≤ 7 := by have := nodup_lt_length (l := (List.range 7).filter fun k => decide (0 < S.cn k)) (List.Pairwise.filter _ List.nodup_range) (n := 7) (fun x hx => List.mem_range.1 (List.mem_filter.1 hx).1); rw [nums_filter] at this; omega
  have hpgn : pg < w.heap.size := hra.lt pg (by simp [gb])
  have hpgR : pg ≠ w.heap.size + 1 := by omega
  have EA : Hid (ansD S ⟨9, a, b, c, s, t⟩ = ⟨0, (S.nn : Int), 0, ⟨#[]⟩⟩ ∧ stepD S ⟨9, a, b, c, s, t⟩ 0 = S) := by
    show _ ∧ _
    simp [ansD, stepD]
  clear hgf ho hsm hnum hcap
  unfold opV
  go_enter Try.func50, Try.ntmps50
  go_upto_region 1 with fail
  change Code.wp Try.prog _ _ _ (gW w ⟨9, a, b, c, s, t⟩)
  generalize gW w ⟨9, a, b, c, s, t⟩ = W0 at hra ⊢
  obtain ⟨c1, c2, c3, c4, c5, fg⟩ := hra.c.facts
  obtain ⟨o0, o1, o2, r0, r1, r2, r3, fr⟩ := hra.g.facts
  simp only at o0 o1 o2
  have HRA : Hid (RA w ⟨9, a, b, c, s, t⟩ pg pE pH pT pK n S.nn HH TT KZ S.A W0) := hra
  clear hra
  go_wp2
  exact ra_end rfl rfl H.out HRA.out HOK.out rfl EA.out.1 EA.out.2
set_option maxHeartbeats 8000000 in
set_option maxRecDepth 4000 in
theorem wn_10 {w : World} {pg pE pH pT pK : Nat} {S : WS} (h : GhAt w pg pE pH pT pK S) (ho : S.ok) (hcap : ∀ j, j < 7 → S.cn j < 4611686018427387904) (o : OpD) (hk : o.kind = 10) : Calls Try.prog 50 #[pt pg, opV o] w (GrP pg pE pH pT pK S o w) := by
  have H : Hid (GhAt w pg pE pH pT pK S) := h
  have HO : Hid S.ok := ho
  have HCAP : Hid (∀ j, j < 7 → S.cn j < 4611686018427387904) := hcap
  obtain ⟨kind, a, b, c, s, t⟩ := o
  simp only at hk
  subst hk
  obtain ⟨n, HH, TT, KZ, hgf⟩ := h
  have hnum := hgf.ok.num
  have hsm := ho.small
  have HOK : Hid (GOk n HH TT KZ S.cn) := hgf.ok
  have HNUM : Hid (n = nums S.cn) := hnum
  have hra : RA w ⟨10, a, b, c, s, t⟩ pg pE pH pT pK n S.nn HH TT KZ S.A (gW w ⟨10, a, b, c, s, t⟩) := RA.start hgf
  have hn10 : n ≤ 10 := by omega
  have hnn10 : S.nn ≤ 10 := by omega
  have hn7 : n ≤ 7 := by have := nodup_lt_length (l := (List.range 7).filter fun k => decide (0 < S.cn k)) (List.Pairwise.filter _ List.nodup_range) (n := 7) (fun x hx => List.mem_range.1 (List.mem_filter.1 hx).1); rw [nums_filter] at this; omega
  have hpgn : pg < w.heap.size := hra.lt pg (by simp [gb])
  have hpgR : pg ≠ w.heap.size + 1 := by omega
  have EA : Hid (ansD S ⟨10, a, b, c, s, t⟩ = ⟨0, (n : Int) + (S.nn : Int), 0, ⟨#[]⟩⟩ ∧ stepD S ⟨10, a, b, c, s, t⟩ 0 = wipeS S) := by
    show _ ∧ _
    have e : sizeS S = (n : Int) + (S.nn : Int) := by unfold sizeS; omega
    simp [ansD, stepD, e]
  clear hgf ho hsm hnum hcap
  unfold opV
  go_enter Try.func50, Try.ntmps50
  go_upto_region 1 with fail
  change Code.wp Try.prog _ _ _ (gW w ⟨10, a, b, c, s, t⟩)
  generalize gW w ⟨10, a, b, c, s, t⟩ = W0 at hra ⊢
  obtain ⟨c1, c2, c3, c4, c5, fg⟩ := hra.c.facts
  obtain ⟨o0, o1, o2, r0, r1, r2, r3, fr⟩ := hra.g.facts
  simp only at o0 o1 o2
  have HRA : Hid (RA w ⟨10, a, b, c, s, t⟩ pg pE pH pT pK n S.nn HH TT KZ S.A W0) := hra
  clear hra
  go_wp2_with fail
  go_quiet (fail)
  have hra := HRA.out.drewN nq
  clear c1 c2 c3 c4 c5 fg o0 o1 o2 r0 r1 r2 r3 fr HRA
  generalize W0.drewN nq = W1 at hra ⊢
  obtain ⟨c1, c2, c3, c4, c5, fg⟩ := hra.c.facts
  obtain ⟨o0, o1, o2, r0, r1, r2, r3, fr⟩ := hra.g.facts
  simp only at o0 o1 o2
  have HRA : Hid (RA w ⟨10, a, b, c, s, t⟩ pg pE pH pT pK n S.nn HH TT KZ S.A W1) := hra
  have HOK0 : Hid (GOk 0 HH TT KZ (wipeS S).cn) := ⟨fun i hi => by omega, fun i j hi => by omega, fun k hk hp => by simp [wipeS] at hp, fun k hk => by simp [wipeS]⟩
  clear hra
  go_wp2
  exact ra_end (n := 0) (S' := wipeS S) rfl rfl H.out ((HRA.out.setN 0).setNn 0) HOK0.out rfl EA.out.1 EA.out.2
set_option maxHeartbeats 8000000 in
set_option maxRecDepth 4000 in
theorem wn_11 {w : World} {pg pE pH pT pK : Nat} {S : WS} (h : GhAt w pg pE pH pT pK S) (ho : S.ok) (hcap : ∀ j, j < 7 → S.cn j < 4611686018427387904) (o : OpD) (hk : o.kind = 11) : Calls Try.prog 50 #[pt pg, opV o] w (GrP pg pE pH pT pK S o w) := by
  have H : Hid (GhAt w pg pE pH pT pK S) := h
  have HO : Hid S.ok := ho
  have HCAP : Hid (∀ j, j < 7 → S.cn j < 4611686018427387904) := hcap
  obtain ⟨kind, a, b, c, s, t⟩ := o
  simp only at hk
  subst hk
  obtain ⟨n, HH, TT, KZ, hgf⟩ := h
  have hnum := hgf.ok.num
  have hsm := ho.small
  have HOK : Hid (GOk n HH TT KZ S.cn) := hgf.ok
  have HNUM : Hid (n = nums S.cn) := hnum
  have hra : RA w ⟨11, a, b, c, s, t⟩ pg pE pH pT pK n S.nn HH TT KZ S.A (gW w ⟨11, a, b, c, s, t⟩) := RA.start hgf
  have hn10 : n ≤ 10 := by omega
  have hnn10 : S.nn ≤ 10 := by omega
  have hn7 : n ≤ 7 := by have := nodup_lt_length (l := (List.range 7).filter fun k => decide (0 < S.cn k)) (List.Pairwise.filter _ List.nodup_range) (n := 7) (fun x hx => List.mem_range.1 (List.mem_filter.1 hx).1); rw [nums_filter] at this; omega
  have hpgn : pg < w.heap.size := hra.lt pg (by simp [gb])
  have hpgR : pg ≠ w.heap.size + 1 := by omega
  have EA : Hid (ansD S ⟨11, a, b, c, s, t⟩ = ⟨0, 0, 0, showS S⟩ ∧ stepD S ⟨11, a, b, c, s, t⟩ 0 = S) := by
    show _ ∧ _
    simp [ansD, stepD]
  clear hgf ho hsm hnum hcap
  unfold opV
  go_enter Try.func50, Try.ntmps50
  go_upto_region 1 with fail
  change Code.wp Try.prog _ _ _ (gW w ⟨11, a, b, c, s, t⟩)
  generalize gW w ⟨11, a, b, c, s, t⟩ = W0 at hra ⊢
  obtain ⟨c1, c2, c3, c4, c5, fg⟩ := hra.c.facts
  obtain ⟨o0, o1, o2, r0, r1, r2, r3, fr⟩ := hra.g.facts
  simp only at o0 o1 o2
  have HRA : Hid (RA w ⟨11, a, b, c, s, t⟩ pg pE pH pT pK n S.nn HH TT KZ S.A W0) := hra
  clear hra
  go_wp2_with fail
  refine (shown_calls ⟨n, HH, TT, KZ, HRA.out.c.f HOK.out⟩ HO.out HCAP.out).mono ?_
  rintro x w4 ⟨rfl, hc4⟩
  have hra := HRA.out.call hc4
  clear c1 c2 c3 c4 c5 fg o0 o1 o2 r0 r1 r2 r3 fr HRA hc4
  obtain ⟨c1, c2, c3, c4, c5, fg⟩ := hra.c.facts
  obtain ⟨o0, o1, o2, r0, r1, r2, r3, fr⟩ := hra.g.facts
  simp only at o0 o1 o2
  have HRA : Hid (RA w ⟨11, a, b, c, s, t⟩ pg pE pH pT pK n S.nn HH TT KZ S.A w4) := hra
  clear hra
  generalize showS S = q at *
  go_wp2
  exact ra_end rfl rfl H.out HRA.out HOK.out rfl EA.out.1 EA.out.2
set_option maxHeartbeats 8000000 in
set_option maxRecDepth 4000 in
theorem wn_12 {w : World} {pg pE pH pT pK : Nat} {S : WS} (h : GhAt w pg pE pH pT pK S) (ho : S.ok) (hcap : ∀ j, j < 7 → S.cn j < 4611686018427387904) (o : OpD) (hk : o.kind = 12) : Calls Try.prog 50 #[pt pg, opV o] w (GrP pg pE pH pT pK S o w) := by
  have H : Hid (GhAt w pg pE pH pT pK S) := h
  have HO : Hid S.ok := ho
  have HCAP : Hid (∀ j, j < 7 → S.cn j < 4611686018427387904) := hcap
  obtain ⟨kind, a, b, c, s, t⟩ := o
  simp only at hk
  subst hk
  obtain ⟨n, HH, TT, KZ, hgf⟩ := h
  have hnum := hgf.ok.num
  have hsm := ho.small
  have HOK : Hid (GOk n HH TT KZ S.cn) := hgf.ok
  have HNUM : Hid (n = nums S.cn) := hnum
  have hra : RA w ⟨12, a, b, c, s, t⟩ pg pE pH pT pK n S.nn HH TT KZ S.A (gW w ⟨12, a, b, c, s, t⟩) := RA.start hgf
  have hn10 : n ≤ 10 := by omega
  have hnn10 : S.nn ≤ 10 := by omega
  have hn7 : n ≤ 7 := by have := nodup_lt_length (l := (List.range 7).filter fun k => decide (0 < S.cn k)) (List.Pairwise.filter _ List.nodup_range) (n := 7) (fun x hx => List.mem_range.1 (List.mem_filter.1 hx).1); rw [nums_filter] at this; omega
  have hpgn : pg < w.heap.size := hra.lt pg (by simp [gb])
  have hpgR : pg ≠ w.heap.size + 1 := by omega
  have EA : Hid (ansD S ⟨12, a, b, c, s, t⟩ = ⟨0, 1, 0, ⟨#[]⟩⟩ ∧ stepD S ⟨12, a, b, c, s, t⟩ 0 = S) := by
    show _ ∧ _
    simp [ansD, stepD]
  clear hgf ho hsm hnum hcap
  unfold opV
  go_enter Try.func50, Try.ntmps50
  go_upto_region 1 with fail
  change Code.wp Try.prog _ _ _ (gW w ⟨12, a, b, c, s, t⟩)
  generalize gW w ⟨12, a, b, c, s, t⟩ = W0 at hra ⊢
  obtain ⟨c1, c2, c3, c4, c5, fg⟩ := hra.c.facts
  obtain ⟨o0, o1, o2, r0, r1, r2, r3, fr⟩ := hra.g.facts
  simp only at o0 o1 o2
  have HRA : Hid (RA w ⟨12, a, b, c, s, t⟩ pg pE pH pT pK n S.nn HH TT KZ S.A W0) := hra
  clear hra
  go_wp2
  exact ra_end rfl rfl H.out HRA.out HOK.out rfl EA.out.1 EA.out.2
end Go.Proofs.Qxb6500374a.W
