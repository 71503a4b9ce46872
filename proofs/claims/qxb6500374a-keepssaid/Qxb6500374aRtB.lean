import Derived.Test.Qxb6500374aRt
import Derived.BigRegion
set_option linter.unusedVariables false
set_option linter.unusedSimpArgs false
namespace Go.Proofs.Qxb6500374a.W
open Go.RowKit Go.Maps

set_option maxHeartbeats 8000000 in
set_option maxRecDepth 4000 in
theorem rt_n5 {w : World} {pg pE pH pT pK : Nat} {S : WS} (h : GhAt w pg pE pH pT pK S) (ho : S.ok) (o : OpD) (hcap : ∀ j, j < 7 → S.cn j < 4611686018427387904) (hk : o.kind = 5) (hr : isR o.a o.b = true) (hz : 0 < o.b) : Calls Try.prog 57 #[pt pg, opV o] w (GrP pg pE pH pT pK S o w) := by
  have H : Hid (GhAt w pg pE pH pT pK S) := h
  have HO : Hid S.ok := ho
  obtain ⟨kind, a0, b0, c, s, t⟩ := o
  simp only at hk hr hz
  subst hk
  obtain ⟨a, b, hab, hb4, rfl, rfl⟩ := isR_iff.1 hr
  obtain ⟨n, HH, TT, KZ, hgf⟩ := h
  have hnum := hgf.ok.num
  have hsm := ho.small
  have HOK : Hid (GOk n HH TT KZ S.cn) := hgf.ok
  have hra : RA w ⟨5, (a : Int), (b : Int), c, s, t⟩ pg pE pH pT pK n S.nn HH TT KZ S.A (gW w ⟨5, (a : Int), (b : Int), c, s, t⟩) := RA.start hgf
  have hn10 : n ≤ 10 := by omega
  have hn7 : n ≤ 7 := by have := nodup_lt_length (l := (List.range 7).filter fun k => decide (0 < S.cn k)) (List.Pairwise.filter _ List.nodup_range) (n := 7) (fun x hx => List.mem_range.1 (List.mem_filter.1 hx).1); rw [nums_filter] at this; omega
  have hnn10 : S.nn ≤ 10 := by omega
  have EA : Hid ((0 < S.cn (rj a b) ∨ ¬ 10 ≤ nums S.cn + S.nn → ansD S ⟨5, (a : Int), (b : Int), c, s, t⟩ = ⟨0, 0, 0, ⟨#[]⟩⟩ ∧ stepD S ⟨5, (a : Int), (b : Int), c, s, t⟩ 0 = { S with cn := upd S.cn (rj a b) (S.cn (rj a b) + 1) }) ∧ (S.cn (rj a b) = 0 → 10 ≤ nums S.cn + S.nn → ansD S ⟨5, (a : Int), (b : Int), c, s, t⟩ = ⟨3, 0, 0, ⟨#[]⟩⟩ ∧ stepD S ⟨5, (a : Int), (b : Int), c, s, t⟩ 0 = S)) := by
    show _ ∧ _
    have e : noteS S a b = if S.cn (rj a b) = 0 ∧ 10 ≤ nums S.cn + S.nn then (3, S) else (0, { S with cn := upd S.cn (rj a b) (S.cn (rj a b) + 1) }) := by rw [noteS, if_pos hr, if_neg (by omega)]; simp
    constructor
    · intro hx
      have : ¬ (S.cn (rj a b) = 0 ∧ 10 ≤ nums S.cn + S.nn) := by omega
      simp [ansD, stepD, e, this]
    · intro h0 hx
      simp [ansD, stepD, e, h0, hx]
  have db : ((b : Int) == 0) = false := by simp; omega
  have hb1 : 1 ≤ b := by omega
  have HNUM : Hid (n = nums S.cn) := hnum
  clear hgf ho hr hsm hz hnum
  unfold opV
  go_enter Try.func57, Try.ntmps57
  go_upto_region 1 with fail
  change Code.wp Try.prog _ _ _ (gW w ⟨5, (a : Int), (b : Int), c, s, t⟩)
  generalize gW w ⟨5, (a : Int), (b : Int), c, s, t⟩ = W0 at hra ⊢
  obtain ⟨c1, c2, c3, c4, c5, fg⟩ := hra.c.facts
  obtain ⟨o0, o1, o2, r0, r1, r2, r3, fr⟩ := hra.g.facts
  simp only at o0 o1 o2
  have HRA : Hid (RA w ⟨5, (a : Int), (b : Int), c, s, t⟩ pg pE pH pT pK n S.nn HH TT KZ S.A W0) := hra
  clear hra
  go_wp2_with fail
  go_quiet (fail)
  have hra := HRA.out.drewN nq
  clear c1 c2 c3 c4 c5 fg o0 o1 o2 r0 r1 r2 r3 fr HRA
  generalize W0.drewN nq = W1 at hra ⊢
  obtain ⟨c1, c2, c3, c4, c5, fg⟩ := hra.c.facts
  obtain ⟨o0, o1, o2, r0, r1, r2, r3, fr⟩ := hra.g.facts
  simp only at o0 o1 o2
  have HRA : Hid (RA w ⟨5, (a : Int), (b : Int), c, s, t⟩ pg pE pH pT pK n S.nn HH TT KZ S.A W1) := hra
  clear hra
  have HCAP : Hid (∀ j, j < 7 → S.cn j < 4611686018427387904) := hcap
  clear hcap
  go_wp2_with fail
  refine (where_calls (HRA.out.c.f HOK.out) hn10 hab hb1 hb4).mono ?_
  rintro x w4 ⟨hc4, hwh⟩
  have hra := HRA.out.call hc4
  clear c1 c2 c3 c4 c5 fg o0 o1 o2 r0 r1 r2 r3 fr HRA hc4
  obtain ⟨c1, c2, c3, c4, c5, fg⟩ := hra.c.facts
  obtain ⟨o0, o1, o2, r0, r1, r2, r3, fr⟩ := hra.g.facts
  simp only at o0 o1 o2
  have HRA : Hid (RA w ⟨5, (a : Int), (b : Int), c, s, t⟩ pg pE pH pT pK n S.nn HH TT KZ S.A w4) := hra
  have aps := hra.c.aps
  have HLT : Hid (∀ x ∈ gb pg pE pH pT pK, x < w.heap.size) := hra.lt
  have l1 := hra.lt pg (by simp [gb])
  have l2 := hra.lt pH (by simp [gb])
  have l3 := hra.lt pT (by simp [gb])
  have l4 := hra.lt pK (by simp [gb])
  clear hra
  rcases hwh with ⟨i, hi, rfl, hri, hpos⟩ | ⟨rfl, h0, hno⟩
  · have hKi := (HOK.out.each i hi).2.2.2.2.1
    have ck := HRA.out.c.k.cell (i := i) (by omega)
    have fk := HRA.out.c.k.froz i
    rw [hKi, hri] at ck
    have hcp := HCAP.out _ (rj_lt a b)
    have EA2 : Hid (ansD S ⟨5, (a : Int), (b : Int), c, s, t⟩ = ⟨0, 0, 0, ⟨#[]⟩⟩ ∧ stepD S ⟨5, (a : Int), (b : Int), c, s, t⟩ 0 = { S with cn := upd S.cn (rj a b) (S.cn (rj a b) + 1) }) := EA.out.1 (Or.inl hpos)
    have HRA2 : Hid (RA w ⟨5, (a : Int), (b : Int), c, s, t⟩ pg pE pH pT pK n S.nn HH TT (updf KZ i (S.cn (rj a b) + 1)) S.A (w4.setCell ⟨pK, i, none⟩ (.int .i64 (S.cn (rj a b) + 1)))) := HRA.out.setK (by omega) _
    have HOK2 : Hid (GOk n HH TT (updf KZ i (S.cn (rj a b) + 1)) (upd S.cn (rj a b) (S.cn (rj a b) + 1))) := by
      have := HOK.out.note hi
      rw [hri] at this
      exact this
    have hpK : pK ≠ w.heap.size + 1 := by omega
    clear hKi hri EA
    generalize hcc : S.cn (rj a b) = cc at *
    clear hcc
    go_wp2
    exact ra_end (S' := { S with cn := upd S.cn (rj a b) (cc + 1) }) rfl rfl H.out HRA2.out HOK2.out rfl EA2.out.1 EA2.out.2
  · by_cases hf : 10 ≤ nums S.cn + S.nn
    · have dfi : decide ((10 : Int) ≤ (n : Int) + (S.nn : Int)) = true := by have := HNUM.out; simp; omega
      have dfl : 10 ≤ n + S.nn := by have := HNUM.out; omega
      have EA2 : Hid (ansD S ⟨5, (a : Int), (b : Int), c, s, t⟩ = ⟨3, 0, 0, ⟨#[]⟩⟩ ∧ stepD S ⟨5, (a : Int), (b : Int), c, s, t⟩ 0 = S) := EA.out.2 h0 hf
      clear EA hf hno
      go_wp2
      exact ra_end rfl rfl H.out HRA.out HOK.out rfl EA2.out.1 EA2.out.2
    · have dfi : decide ((10 : Int) ≤ (n : Int) + (S.nn : Int)) = false := by have := HNUM.out; simp; omega
      have dfl : n + S.nn < 10 := by have := HNUM.out; omega
      have EA2 : Hid (ansD S ⟨5, (a : Int), (b : Int), c, s, t⟩ = ⟨0, 0, 0, ⟨#[]⟩⟩ ∧ stepD S ⟨5, (a : Int), (b : Int), c, s, t⟩ 0 = { S with cn := upd S.cn (rj a b) (S.cn (rj a b) + 1) }) := EA.out.1 (Or.inr hf)
      have HOK2 : Hid (GOk (n + 1) (updf HH n a) (updf TT n b) (updf KZ n 1) (upd S.cn (rj a b) (S.cn (rj a b) + 1))) := HOK.out.add hab hb1 hb4 h0 hno
      have ch := HRA.out.c.h.cell (i := n) (by omega)
      have fh := HRA.out.c.h.froz n
      clear EA hf hno HOK
      go_wp2_with fail
      go_region
      all_goals (try go_wp2_with fail)
      have hra := (HRA.out.setH (i := n) (by omega) a).drew
      clear c1 c2 c3 c4 c5 fg o0 o1 o2 r0 r1 r2 r3 fr HRA ch fh
      generalize (w4.setCell ⟨pH, n, none⟩ (.int .i64 (a : Int))).drew = W2 at hra ⊢
      obtain ⟨c1, c2, c3, c4, c5, fg⟩ := hra.c.facts
      obtain ⟨o0, o1, o2, r0, r1, r2, r3, fr⟩ := hra.g.facts
      simp only at o0 o1 o2
      have ct1 := hra.c.t.cell (i := n) (by omega)
      have ft1 := hra.c.t.froz n
      have HRA : Hid (RA w ⟨5, (a : Int), (b : Int), c, s, t⟩ pg pE pH pT pK n S.nn (updf HH n a) TT KZ S.A W2) := hra
      clear hra
      go_region
      all_goals (try go_wp2_with fail)
      have hra := (HRA.out.setT (i := n) (by omega) b).drew
      clear c1 c2 c3 c4 c5 fg o0 o1 o2 r0 r1 r2 r3 fr HRA ct1 ft1
      generalize (W2.setCell ⟨pT, n, none⟩ (.int .i64 (b : Int))).drew = W3 at hra ⊢
      obtain ⟨c1, c2, c3, c4, c5, fg⟩ := hra.c.facts
      obtain ⟨o0, o1, o2, r0, r1, r2, r3, fr⟩ := hra.g.facts
      simp only at o0 o1 o2
      have ck1 := hra.c.k.cell (i := n) (by omega)
      have fk1 := hra.c.k.froz n
      have HRA : Hid (RA w ⟨5, (a : Int), (b : Int), c, s, t⟩ pg pE pH pT pK n S.nn (updf HH n a) (updf TT n b) KZ S.A W3) := hra
      clear hra
      go_region
      all_goals (try go_wp2_with fail)
      have hra9 := (HRA.out.setK (i := n) (by omega) 1).setN ((n : Int) + 1)
      rw [show (n : Int) + 1 = ((n + 1 : Nat) : Int) by omega] at hra9 ⊢
      exact ra_endD (n := n + 1) (S' := { S with cn := upd S.cn (rj a b) (S.cn (rj a b) + 1) }) rfl rfl H.out hra9 HOK2.out rfl EA2.out.1 EA2.out.2

end Go.Proofs.Qxb6500374a.W
