import Derived.Test.Qxb6500374aRu
import Derived.Test.Qxb6500374aSn
import Derived.BigRegion
set_option linter.unusedVariables false
set_option linter.unusedSimpArgs false
namespace Go.Proofs.Qxb6500374a.W
open Go.RowKit Go.Maps

/-- The sweep of the ghost's Prune. -/
structure Pw (cn : Nat → Int) (mn : Int) (q m : Nat) (H T K cr : Nat → Int) : Prop where
  ok : GOk m H T K cr
  qm : q ≤ m
  kept : ∀ i, q ≤ i → i < m → ¬ K i < mn
  tie : ∀ j, j < 7 → cr j = cn j ∨ (cr j = 0 ∧ cn j < mn)
  out : ∀ j, 7 ≤ j → cr j = cn j
theorem Pw.stay {cn : Nat → Int} {mn : Int} {i m : Nat} {H T K cr : Nat → Int} (h : Pw cn mn (i + 1) m H T K cr) (hk : ¬ K i < mn) : Pw cn mn i m H T K cr :=
  ⟨h.ok, by have := h.qm; omega, fun k h1 h2 => by
    by_cases e : k = i
    · subst e; exact hk
    · exact h.kept k (by omega) h2, h.tie, h.out⟩
theorem Pw.go {cn : Nat → Int} {mn : Int} {i m : Nat} {H T K cr : Nat → Int} (h : Pw cn mn (i + 1) (m + 1) H T K cr) (hk : K i < mn) : Pw cn mn i m (updf H i (H m)) (updf T i (T m)) (updf K i (K m)) (upd cr (rI (H i) (T i)) 0) := by
  have hqm := h.qm
  have hi : i < m + 1 := by omega
  obtain ⟨_, _, _, _, e5, e6⟩ := h.ok.each i hi
  refine ⟨h.ok.remove hi, by omega, ?_, ?_, ?_⟩
  · intro k h1 h2
    unfold updf
    by_cases e : k = i
    · rw [if_pos e]; exact h.kept m (by omega) (by omega)
    · rw [if_neg e]; exact h.kept k (by omega) (by omega)
  · intro j hj
    by_cases e : j = rI (H i) (T i)
    · subst e
      right
      rw [upd_same]
      refine ⟨rfl, ?_⟩
      rcases h.tie _ hj with e' | ⟨e', _⟩
      · rw [← e', ← e5]; exact hk
      · omega
    · rw [upd_ne _ _ e]; exact h.tie j hj
  · intro j hj
    rw [upd_ne _ _ (by have := rI_lt (H i) (T i); omega)]
    exact h.out j hj
theorem Pw.fin {cn : Nat → Int} {mn : Int} {m : Nat} {H T K cr : Nat → Int} (h : Pw cn mn 0 m H T K cr) : cr = pruneC cn mn := by
  funext j
  unfold pruneC
  rcases Nat.lt_or_ge j 7 with hj | hj
  · rcases h.tie j hj with e | ⟨e1, e2⟩
    · by_cases hm : cn j < mn
      · rw [if_pos ⟨hj, hm⟩]
        by_cases hp : 0 < cr j
        · exfalso
          obtain ⟨i, hi, he⟩ := h.ok.all j hj hp
          have h5 := (h.ok.each i hi).2.2.2.2.1
          rw [he] at h5
          exact h.kept i (by omega) hi (by rw [h5, e]; exact hm)
        · have := h.ok.pos j hj
          omega
      · rw [if_neg (fun hx => hm hx.2), e]
    · rw [if_pos ⟨hj, e2⟩, e1]
  · rw [if_neg (by omega), h.out j hj]

set_option maxHeartbeats 8000000 in
set_option maxRecDepth 4000 in
theorem wn_13 {w : World} {pg pE pH pT pK : Nat} {S : WS} (h : GhAt w pg pE pH pT pK S) (ho : S.ok) (hcap : ∀ j, j < 7 → S.cn j < 4611686018427387904) (o : OpD) (hk : o.kind = 13) : Calls Try.prog 50 #[pt pg, opV o] w (GrP pg pE pH pT pK S o w) := by
  have H : Hid (GhAt w pg pE pH pT pK S) := h
  have HO : Hid S.ok := ho
  have HCAP : Hid (∀ j, j < 7 → S.cn j < 4611686018427387904) := hcap
  obtain ⟨kind, a, b, c, s, t⟩ := o
  simp only at hk
  subst hk
  obtain ⟨n, HH, TT, KZ, hgf⟩ := h
  have hnum := hgf.ok.num
  have hsm := ho.small
  have HOK : Hid (GOk n HH TT KZ S.cn) := hgf.ok
  have HNUM : Hid (n = nums S.cn) := hnum
  have hra : RA w ⟨13, a, b, c, s, t⟩ pg pE pH pT pK n S.nn HH TT KZ S.A (gW w ⟨13, a, b, c, s, t⟩) := RA.start hgf
  have hn10 : n ≤ 10 := by omega
  have hnn10 : S.nn ≤ 10 := by omega
  have hn7 : n ≤ 7 := by have := nodup_lt_length (l := (List.range 7).filter fun k => decide (0 < S.cn k)) (List.Pairwise.filter _ List.nodup_range) (n := 7) (fun x hx => List.mem_range.1 (List.mem_filter.1 hx).1); rw [nums_filter] at this; omega
  have hpgn : pg < w.heap.size := hra.lt pg (by simp [gb])
  have hpgR : pg ≠ w.heap.size + 1 := by omega
  have EA : Hid (ansD S ⟨13, a, b, c, s, t⟩ = ⟨0, sizeS S - sizeS (pruneS S a), 0, ⟨#[]⟩⟩ ∧ stepD S ⟨13, a, b, c, s, t⟩ 0 = pruneS S a) := by
    show _ ∧ _
    simp [ansD, stepD]
  clear hgf ho hsm hnum hcap
  unfold opV
  go_enter Try.func50, Try.ntmps50
  go_upto_region 1 with fail
  change Code.wp Try.prog _ _ _ (gW w ⟨13, a, b, c, s, t⟩)
  generalize gW w ⟨13, a, b, c, s, t⟩ = W0 at hra ⊢
  obtain ⟨c1, c2, c3, c4, c5, fg⟩ := hra.c.facts
  obtain ⟨o0, o1, o2, r0, r1, r2, r3, fr⟩ := hra.g.facts
  simp only at o0 o1 o2
  have HRA : Hid (RA w ⟨13, a, b, c, s, t⟩ pg pE pH pT pK n S.nn HH TT KZ S.A W0) := hra
  clear hra
  go_wp2_with fail
  clear c1 c2 c3 c4 c5 fg o0 o1 o2 r0 r1 r2 r3 fr
  go_loopw [6, 7] (fun v6 v7 wr => ∃ (q m : Nat) (H T K cr : Nat → Int), m ≤ n ∧ v7 = .int .i64 ((q : Int) - 1) ∧ v6 = .int .i64 ((n : Int) - (m : Int)) ∧ Pw S.cn a q m H T K cr ∧ RA w ⟨13, a, b, c, s, t⟩ pg pE pH pT pK m S.nn H T K S.A wr) (fun _ v7 _ => (intOf v7 + 1).toNat)
  case atStart => exact ⟨n, n, HH, TT, KZ, S.cn, by omega, rfl, by simp, ⟨HOK.out, by omega, fun i h1 h2 => by omega, fun j _ => Or.inl rfl, fun _ _ => rfl⟩, HRA.out⟩
  case round =>
    clear HRA
    obtain ⟨q, m, H1, T1, K1, cr, hmn, rfl, rfl, hpw, hra⟩ := hrel
    rename World => wI
    have HPW : Hid (Pw S.cn a q m H1 T1 K1 cr) := hpw
    have hqm := hpw.qm
    obtain ⟨c1, c2, c3, c4, c5, fg⟩ := hra.c.facts
    obtain ⟨o0, o1, o2, r0, r1, r2, r3, fr⟩ := hra.g.facts
    simp only at o0 o1 o2
    have HRA : Hid (RA w ⟨13, a, b, c, s, t⟩ pg pE pH pT pK m S.nn H1 T1 K1 S.A wI) := hra
    cases q with
    | zero =>
      have HF : Hid (cr = pruneC S.cn a) := hpw.fin
      have EA2 : Hid (ansD S ⟨13, a, b, c, s, t⟩ = ⟨0, (n : Int) - (m : Int), 0, ⟨#[]⟩⟩ ∧ stepD S ⟨13, a, b, c, s, t⟩ 0 = pruneS S a) := by
        show _ ∧ _
        refine ⟨?_, EA.out.2⟩
        rw [EA.out.1]
        have h1 := HNUM.out
        have h2 := hpw.ok.num
        rw [HF.out] at h2
        have : sizeS S - sizeS (pruneS S a) = (n : Int) - (m : Int) := by
          unfold sizeS pruneS
          simp only
          omega
        rw [this]
      have HOK2 : Hid (GOk m H1 T1 K1 (pruneS S a).cn) := by
        show GOk _ _ _ _ (pruneC S.cn a)
        rw [← HF.out]
        exact hpw.ok
      clear hpw hra
      have ez : (((0 : Nat) : Int) - 1) = -1 := rfl
      rw [ez]
      go_wp2
      exact ra_end (S' := pruneS S a) rfl rfl H.out HRA.out HOK2.out rfl EA2.out.1 EA2.out.2
    | succ i =>
      have ei : (((i + 1 : Nat) : Int) - 1) = (i : Int) := by omega
      rw [ei]
      have ck := hra.c.k.cell (i := i) (by omega)
      have d0 : decide ((0 : Int) ≤ (i : Int)) = true := by simp
      by_cases hk : K1 i < a
      · have dk : decide (K1 i < a) = true := by simpa using hk
        obtain ⟨m', rfl⟩ : ∃ m', m = m' + 1 := ⟨m - 1, by omega⟩
        have HPW2 : Hid (Pw S.cn a i m' (updf H1 i (H1 m')) (updf T1 i (T1 m')) (updf K1 i (K1 m')) (upd cr (rI (H1 i) (T1 i)) 0)) := hpw.go hk
        rw [show (((m' + 1 : Nat) : Nat) : Int) = (m' : Int) + 1 by omega] at c4
        clear hpw hra hk
        generalize hki : K1 i = ki at *
        clear hki
        go_wp2_with fail
        go_quiet (fail)
        go_wp2_with fail
        have hra := (HRA.out.drewN nq).setN (m' : Int)
        clear c1 c2 c3 c4 c5 fg o0 o1 o2 r0 r1 r2 r3 fr HRA ck
        generalize (wI.drewN nq).setCell ⟨pg, 4, none⟩ (.int .i64 (m' : Int)) = W2 at hra ⊢
        obtain ⟨c1, c2, c3, c4, c5, fg⟩ := hra.c.facts
        obtain ⟨o0, o1, o2, r0, r1, r2, r3, fr⟩ := hra.g.facts
        simp only at o0 o1 o2
        have ch := hra.c.h.cell (i := m') (by omega)
        have ch2 := hra.c.h.cell (i := i) (by omega)
        have fh := hra.c.h.froz i
        have HRA : Hid (RA w ⟨13, a, b, c, s, t⟩ pg pE pH pT pK m' S.nn H1 T1 K1 S.A W2) := hra
        clear hra
        go_region
        all_goals (try go_wp2_with fail)
        have hra := (HRA.out.setH (i := i) (by omega) (H1 m')).drew
        clear c1 c2 c3 c4 c5 fg o0 o1 o2 r0 r1 r2 r3 fr HRA ch ch2 fh
        generalize (W2.setCell ⟨pH, i, none⟩ (.int .i64 (H1 m'))).drew = W3 at hra ⊢
        obtain ⟨c1, c2, c3, c4, c5, fg⟩ := hra.c.facts
        obtain ⟨o0, o1, o2, r0, r1, r2, r3, fr⟩ := hra.g.facts
        simp only at o0 o1 o2
        have ch := hra.c.t.cell (i := m') (by omega)
        have ch2 := hra.c.t.cell (i := i) (by omega)
        have fh := hra.c.t.froz i
        have HRA : Hid (RA w ⟨13, a, b, c, s, t⟩ pg pE pH pT pK m' S.nn (updf H1 i (H1 m')) T1 K1 S.A W3) := hra
        clear hra
        go_region
        all_goals (try go_wp2_with fail)
        have hra := (HRA.out.setT (i := i) (by omega) (T1 m')).drew
        clear c1 c2 c3 c4 c5 fg o0 o1 o2 r0 r1 r2 r3 fr HRA ch ch2 fh
        generalize (W3.setCell ⟨pT, i, none⟩ (.int .i64 (T1 m'))).drew = W4 at hra ⊢
        obtain ⟨c1, c2, c3, c4, c5, fg⟩ := hra.c.facts
        obtain ⟨o0, o1, o2, r0, r1, r2, r3, fr⟩ := hra.g.facts
        simp only at o0 o1 o2
        have ch := hra.c.k.cell (i := m') (by omega)
        have ch2 := hra.c.k.cell (i := i) (by omega)
        have fh := hra.c.k.froz i
        have HRA : Hid (RA w ⟨13, a, b, c, s, t⟩ pg pE pH pT pK m' S.nn (updf H1 i (H1 m')) (updf T1 i (T1 m')) K1 S.A W4) := hra
        clear hra
        go_region
        all_goals (try go_wp2_with fail)
        have HRA9 : Hid (RA w ⟨13, a, b, c, s, t⟩ pg pE pH pT pK m' S.nn (updf H1 i (H1 m')) (updf T1 i (T1 m')) (updf K1 i (K1 m')) S.A ((W4.setCell ⟨pK, i, none⟩ (.int .i64 (K1 m'))).drew)) := (HRA.out.setK (i := i) (by omega) (K1 m')).drew
        go_roundw
        case rel =>
          first
          | exact ⟨i, m', _, _, _, _, by omega, rfl, by simp; omega, HPW2.out, HRA9.out⟩
          | ((repeat apply Exists.intro); refine ⟨?_, rfl⟩; exact ⟨i, m', _, _, _, _, by omega, rfl, by simp; omega, HPW2.out, HRA9.out⟩)
        case measure => first | (simp [intOf]; done) | (simp [intOf]; omega)
      · have dk : decide (K1 i < a) = false := by simpa using hk
        have HPW2 : Hid (Pw S.cn a i m H1 T1 K1 cr) := hpw.stay hk
        clear hpw hra hk
        generalize hki : K1 i = ki at *
        clear hki
        go_wp2_with fail
        go_quiet (fail)
        go_wp2
        go_roundw
        case rel =>
          first
          | exact ⟨i, m, H1, T1, K1, cr, hmn, rfl, rfl, HPW2.out, HRA.out.drewN _⟩
          | ((repeat apply Exists.intro); refine ⟨?_, rfl⟩; exact ⟨i, m, H1, T1, K1, cr, hmn, rfl, rfl, HPW2.out, HRA.out.drewN _⟩)
        case measure => first | (simp [intOf]; done) | (simp [intOf]; omega)

end Go.Proofs.Qxb6500374a.W
