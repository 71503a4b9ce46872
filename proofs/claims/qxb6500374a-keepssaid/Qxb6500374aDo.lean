import Derived.Test.Qxb6500374aDd
set_option linter.unusedVariables false
set_option linter.unusedSimpArgs false
namespace Go.Proofs.Qxb6500374a.W
open Go.RowKit Go.Maps

def DoP (px pa ph : Nat) (B C : Nat → Nat) (S : WS) (o : OpD) (w : World) (x : Ending) (w' : World) : Prop :=
  ∃ r : Nat, ((o.kind = 3 ∨ o.kind = 4) → isN o.a = true → RB S.A o.a.toNat r) ∧ x = .returned (ansV (ansD S o)) ∧ WStp px pa ph B C S (stepD S o r) w w'

theorem do_ret {tmps : Array Value} {w3 : World} {R : Nat} {e n m : Int} {s : ByteArray} {Q : Ending → World → Prop} (hp : tmps.getD 4 undef = .pointer (some ⟨R, 0, none⟩)) (hr : w3.heap[R]? = some (.cells (ansCells e n m s) 65 (0, 0)))
    (h : Q (.returned (ansV ⟨e, n, m, s⟩)) w3) : bodyPost Try.prog Try.f49 Q Exit.ret { tmps := tmps, defers := [] } w3 :=
  bodyPost_ret (results_cell_row rfl _ _ R 65 _ (0, 0) _ hp hr Try.underlying65 rfl (by kernel_rfl)) rfl h

set_option maxHeartbeats 4000000 in
set_option maxRecDepth 4000 in
theorem do_link {w : World} {px pa ph : Nat} {B C : Nat → Nat} {S : WS} (h : WAt w px pa ph B C S) (ho : S.ok) (hcap : ∀ j, j < 7 → S.cn j < 4611686018427387904) (o : OpD) (hk : o.kind = 1) :
    Calls Try.prog 49 #[pt px, opV o] w (DoP px pa ph B C S o w) := by
  have H : Hid (WAt w px pa ph B C S) := h
  have HO : Hid S.ok := ho
  have HCAP : Hid (∀ j, j < 7 → S.cn j < 4611686018427387904) := hcap
  obtain ⟨kind, a, b, c, s, t⟩ := o
  simp only at hk
  subst hk
  have H0 : Hid (WAt (doW w ⟨1, a, b, c, s, t⟩) px pa ph B C S) := h.chg ho.aok (doW_chg _ _ []) (by simp)
  clear h ho hcap
  unfold opV
  go_enter Try.func49, Try.ntmps49
  go_wp2_with fail
  refine (link_calls (w := doW w ⟨1, a, b, c, s, t⟩) H0.out HO.out a b).mono ?_
  rintro x w2 ⟨rfl, hst⟩
  have hs : WStp px pa ph B C S (linkS S a b).2 (doW w ⟨1, a, b, c, s, t⟩) w2 := hst
  have hkp := doW_keep (H.out.lt HO.out.aok) hs.chg
  have a0 : w2.cell? ⟨w.heap.size + 1 + 1, 0, none⟩ = some (.int .i64 0) := cell_of hkp.1 rfl
  have a1 : w2.cell? ⟨w.heap.size + 1 + 1, 1, none⟩ = some (.int .i64 0) := cell_of hkp.1 rfl
  have a2 : w2.cell? ⟨w.heap.size + 1 + 1, 2, none⟩ = some (.int .i64 0) := cell_of hkp.1 rfl
  have a3 : w2.cell? ⟨w.heap.size + 1 + 1, 3, none⟩ = some (.string ⟨#[]⟩) := cell_of hkp.1 rfl
  have r0 : w2.cell? ⟨w.heap.size + 1, 0, none⟩ = some (.int .i64 0) := cell_of hkp.2 rfl
  have r1 : w2.cell? ⟨w.heap.size + 1, 1, none⟩ = some (.int .i64 0) := cell_of hkp.2 rfl
  have r2 : w2.cell? ⟨w.heap.size + 1, 2, none⟩ = some (.int .i64 0) := cell_of hkp.2 rfl
  have r3 : w2.cell? ⟨w.heap.size + 1, 3, none⟩ = some (.string ⟨#[]⟩) := cell_of hkp.2 rfl
  have fa : ∀ i, w2.frozen? ⟨w.heap.size + 1 + 1, i, none⟩ = false := fun i => frozen_of hkp.1
  have fr : ∀ i, w2.frozen? ⟨w.heap.size + 1, i, none⟩ = false := fun i => frozen_of hkp.2
  have HS : Hid (WStp px pa ph B C S (linkS S a b).2 (doW w ⟨1, a, b, c, s, t⟩) w2) := hs
  have HP2 : Hid (w2.heap[w.heap.size + 1 + 1]? = some (.cells (ansCells 0 0 0 ⟨#[]⟩) 65 (0, 0)) ∧ w2.heap[w.heap.size + 1]? = some (.cells (ansCells 0 0 0 ⟨#[]⟩) 65 (0, 0))) := hkp
  have EA : Hid (ansD S ⟨1, a, b, c, s, t⟩ = ⟨(linkS S a b).1, 0, 0, ⟨#[]⟩⟩ ∧ stepD S ⟨1, a, b, c, s, t⟩ 0 = (linkS S a b).2) := by
    show _ ∧ _
    constructor
    · simp [ansD]
    · simp [stepD]
  have HA : Hid (AOk (stepD S ⟨1, a, b, c, s, t⟩ 0).A) := (stepD_ok HO.out H.out.pos _ _).aok
  clear hs hkp hst
  go_wp2
  refine do_ret (R := w.heap.size + 1) rfl (ans_row (by omega) HP2.out.1 HP2.out.2 (Chg.px (Chg.refl _ _)) _ _ _ _) ⟨0, (by intro hx; simp at hx), ?_, ?_⟩
  · rw [EA.out.1]
    try rfl
  · have hA := HA.out
    rw [EA.out.2] at hA ⊢
    exact WStp.fin H.out HO.out.aok hA HS.out (ans_chg (Chg.px (Chg.refl _ _)) _ _ _ _)

set_option maxHeartbeats 4000000 in
set_option maxRecDepth 4000 in
theorem do_cut {w : World} {px pa ph : Nat} {B C : Nat → Nat} {S : WS} (h : WAt w px pa ph B C S) (ho : S.ok) (hcap : ∀ j, j < 7 → S.cn j < 4611686018427387904) (o : OpD) (hk : o.kind = 2) :
    Calls Try.prog 49 #[pt px, opV o] w (DoP px pa ph B C S o w) := by
  have H : Hid (WAt w px pa ph B C S) := h
  have HO : Hid S.ok := ho
  have HCAP : Hid (∀ j, j < 7 → S.cn j < 4611686018427387904) := hcap
  obtain ⟨kind, a, b, c, s, t⟩ := o
  simp only at hk
  subst hk
  have H0 : Hid (WAt (doW w ⟨2, a, b, c, s, t⟩) px pa ph B C S) := h.chg ho.aok (doW_chg _ _ []) (by simp)
  clear h ho hcap
  unfold opV
  go_enter Try.func49, Try.ntmps49
  go_wp2_with fail
  refine (cut_calls (w := doW w ⟨2, a, b, c, s, t⟩) H0.out HO.out a b).mono ?_
  rintro x w2 ⟨rfl, hst⟩
  have hs : WStp px pa ph B C S (cutS S a b).2 (doW w ⟨2, a, b, c, s, t⟩) w2 := hst
  have hkp := doW_keep (H.out.lt HO.out.aok) hs.chg
  have a0 : w2.cell? ⟨w.heap.size + 1 + 1, 0, none⟩ = some (.int .i64 0) := cell_of hkp.1 rfl
  have a1 : w2.cell? ⟨w.heap.size + 1 + 1, 1, none⟩ = some (.int .i64 0) := cell_of hkp.1 rfl
  have a2 : w2.cell? ⟨w.heap.size + 1 + 1, 2, none⟩ = some (.int .i64 0) := cell_of hkp.1 rfl
  have a3 : w2.cell? ⟨w.heap.size + 1 + 1, 3, none⟩ = some (.string ⟨#[]⟩) := cell_of hkp.1 rfl
  have r0 : w2.cell? ⟨w.heap.size + 1, 0, none⟩ = some (.int .i64 0) := cell_of hkp.2 rfl
  have r1 : w2.cell? ⟨w.heap.size + 1, 1, none⟩ = some (.int .i64 0) := cell_of hkp.2 rfl
  have r2 : w2.cell? ⟨w.heap.size + 1, 2, none⟩ = some (.int .i64 0) := cell_of hkp.2 rfl
  have r3 : w2.cell? ⟨w.heap.size + 1, 3, none⟩ = some (.string ⟨#[]⟩) := cell_of hkp.2 rfl
  have fa : ∀ i, w2.frozen? ⟨w.heap.size + 1 + 1, i, none⟩ = false := fun i => frozen_of hkp.1
  have fr : ∀ i, w2.frozen? ⟨w.heap.size + 1, i, none⟩ = false := fun i => frozen_of hkp.2
  have HS : Hid (WStp px pa ph B C S (cutS S a b).2 (doW w ⟨2, a, b, c, s, t⟩) w2) := hs
  have HP2 : Hid (w2.heap[w.heap.size + 1 + 1]? = some (.cells (ansCells 0 0 0 ⟨#[]⟩) 65 (0, 0)) ∧ w2.heap[w.heap.size + 1]? = some (.cells (ansCells 0 0 0 ⟨#[]⟩) 65 (0, 0))) := hkp
  have EA : Hid (ansD S ⟨2, a, b, c, s, t⟩ = ⟨(cutS S a b).1, 0, 0, ⟨#[]⟩⟩ ∧ stepD S ⟨2, a, b, c, s, t⟩ 0 = (cutS S a b).2) := by
    show _ ∧ _
    constructor
    · simp [ansD]
    · simp [stepD]
  have HA : Hid (AOk (stepD S ⟨2, a, b, c, s, t⟩ 0).A) := (stepD_ok HO.out H.out.pos _ _).aok
  clear hs hkp hst
  go_wp2
  refine do_ret (R := w.heap.size + 1) rfl (ans_row (by omega) HP2.out.1 HP2.out.2 (Chg.px (Chg.refl _ _)) _ _ _ _) ⟨0, (by intro hx; simp at hx), ?_, ?_⟩
  · rw [EA.out.1]
    try rfl
  · have hA := HA.out
    rw [EA.out.2] at hA ⊢
    exact WStp.fin H.out HO.out.aok hA HS.out (ans_chg (Chg.px (Chg.refl _ _)) _ _ _ _)

set_option maxHeartbeats 4000000 in
set_option maxRecDepth 4000 in
theorem do_reach {w : World} {px pa ph : Nat} {B C : Nat → Nat} {S : WS} (h : WAt w px pa ph B C S) (ho : S.ok) (hcap : ∀ j, j < 7 → S.cn j < 4611686018427387904) (o : OpD) (hk : o.kind = 3) :
    Calls Try.prog 49 #[pt px, opV o] w (DoP px pa ph B C S o w) := by
  have H : Hid (WAt w px pa ph B C S) := h
  have HO : Hid S.ok := ho
  have HCAP : Hid (∀ j, j < 7 → S.cn j < 4611686018427387904) := hcap
  obtain ⟨kind, a, b, c, s, t⟩ := o
  simp only at hk
  subst hk
  have H0 : Hid (WAt (doW w ⟨3, a, b, c, s, t⟩) px pa ph B C S) := h.chg ho.aok (doW_chg _ _ []) (by simp)
  clear h ho hcap
  unfold opV
  go_enter Try.func49, Try.ntmps49
  go_wp2_with fail
  refine (xreach_calls (w := doW w ⟨3, a, b, c, s, t⟩) H0.out HO.out a).mono ?_
  rintro x w2 ⟨r, hrb, rfl, hst⟩
  have HRB : Hid (isN a = true → RB S.A a.toNat r) := hrb
  rw [(reachS_r S a r).1, (reachS_r S a r).2.1, (reachS_r S a r).2.2]
  have hs : WStp px pa ph B C S (reachS S a r).2.2.2 (doW w ⟨3, a, b, c, s, t⟩) w2 := hst
  have hkp := doW_keep (H.out.lt HO.out.aok) hs.chg
  have a0 : w2.cell? ⟨w.heap.size + 1 + 1, 0, none⟩ = some (.int .i64 0) := cell_of hkp.1 rfl
  have a1 : w2.cell? ⟨w.heap.size + 1 + 1, 1, none⟩ = some (.int .i64 0) := cell_of hkp.1 rfl
  have a2 : w2.cell? ⟨w.heap.size + 1 + 1, 2, none⟩ = some (.int .i64 0) := cell_of hkp.1 rfl
  have a3 : w2.cell? ⟨w.heap.size + 1 + 1, 3, none⟩ = some (.string ⟨#[]⟩) := cell_of hkp.1 rfl
  have r0 : w2.cell? ⟨w.heap.size + 1, 0, none⟩ = some (.int .i64 0) := cell_of hkp.2 rfl
  have r1 : w2.cell? ⟨w.heap.size + 1, 1, none⟩ = some (.int .i64 0) := cell_of hkp.2 rfl
  have r2 : w2.cell? ⟨w.heap.size + 1, 2, none⟩ = some (.int .i64 0) := cell_of hkp.2 rfl
  have r3 : w2.cell? ⟨w.heap.size + 1, 3, none⟩ = some (.string ⟨#[]⟩) := cell_of hkp.2 rfl
  have fa : ∀ i, w2.frozen? ⟨w.heap.size + 1 + 1, i, none⟩ = false := fun i => frozen_of hkp.1
  have fr : ∀ i, w2.frozen? ⟨w.heap.size + 1, i, none⟩ = false := fun i => frozen_of hkp.2
  have HS : Hid (WStp px pa ph B C S (reachS S a r).2.2.2 (doW w ⟨3, a, b, c, s, t⟩) w2) := hs
  have HP2 : Hid (w2.heap[w.heap.size + 1 + 1]? = some (.cells (ansCells 0 0 0 ⟨#[]⟩) 65 (0, 0)) ∧ w2.heap[w.heap.size + 1]? = some (.cells (ansCells 0 0 0 ⟨#[]⟩) 65 (0, 0))) := hkp
  have EA : Hid (ansD S ⟨3, a, b, c, s, t⟩ = ⟨(reachS S a 0).2.2.1, (reachS S a 0).1, 0, (reachS S a 0).2.1⟩ ∧ stepD S ⟨3, a, b, c, s, t⟩ r = (reachS S a r).2.2.2) := by
    show _ ∧ _
    constructor
    · simp [ansD]
    · simp [stepD]
  have HA : Hid (AOk (stepD S ⟨3, a, b, c, s, t⟩ r).A) := (stepD_ok HO.out H.out.pos _ _).aok
  clear hs hkp hst hrb
  go_wp2
  refine do_ret (R := w.heap.size + 1) rfl (ans_row (by omega) HP2.out.1 HP2.out.2 (Chg.px (Chg.px (Chg.px (Chg.refl _ _)))) _ _ _ _) ⟨r, fun _ hn => HRB.out hn, ?_, ?_⟩
  · rw [EA.out.1]
    try rfl
  · have hA := HA.out
    rw [EA.out.2] at hA ⊢
    exact WStp.fin H.out HO.out.aok hA HS.out (ans_chg (Chg.px (Chg.px (Chg.px (Chg.refl _ _)))) _ _ _ _)

set_option maxHeartbeats 4000000 in
set_option maxRecDepth 4000 in
theorem do_twins {w : World} {px pa ph : Nat} {B C : Nat → Nat} {S : WS} (h : WAt w px pa ph B C S) (ho : S.ok) (hcap : ∀ j, j < 7 → S.cn j < 4611686018427387904) (o : OpD) (hk : o.kind = 4) :
    Calls Try.prog 49 #[pt px, opV o] w (DoP px pa ph B C S o w) := by
  have H : Hid (WAt w px pa ph B C S) := h
  have HO : Hid S.ok := ho
  have HCAP : Hid (∀ j, j < 7 → S.cn j < 4611686018427387904) := hcap
  obtain ⟨kind, a, b, c, s, t⟩ := o
  simp only at hk
  subst hk
  have H0 : Hid (WAt (doW w ⟨4, a, b, c, s, t⟩) px pa ph B C S) := h.chg ho.aok (doW_chg _ _ []) (by simp)
  clear h ho hcap
  unfold opV
  go_enter Try.func49, Try.ntmps49
  go_wp2_with fail
  refine (xtwins_calls (w := doW w ⟨4, a, b, c, s, t⟩) H0.out HO.out a).mono ?_
  rintro x w2 ⟨r, hrb, rfl, hst⟩
  have HRB : Hid (isN a = true → RB S.A a.toNat r) := hrb
  rw [(twinsS_r S a r).1, (twinsS_r S a r).2.1, (twinsS_r S a r).2.2.1, (twinsS_r S a r).2.2.2]
  have hs : WStp px pa ph B C S (twinsS S a r).2.2.2.2 (doW w ⟨4, a, b, c, s, t⟩) w2 := hst
  have hkp := doW_keep (H.out.lt HO.out.aok) hs.chg
  have a0 : w2.cell? ⟨w.heap.size + 1 + 1, 0, none⟩ = some (.int .i64 0) := cell_of hkp.1 rfl
  have a1 : w2.cell? ⟨w.heap.size + 1 + 1, 1, none⟩ = some (.int .i64 0) := cell_of hkp.1 rfl
  have a2 : w2.cell? ⟨w.heap.size + 1 + 1, 2, none⟩ = some (.int .i64 0) := cell_of hkp.1 rfl
  have a3 : w2.cell? ⟨w.heap.size + 1 + 1, 3, none⟩ = some (.string ⟨#[]⟩) := cell_of hkp.1 rfl
  have r0 : w2.cell? ⟨w.heap.size + 1, 0, none⟩ = some (.int .i64 0) := cell_of hkp.2 rfl
  have r1 : w2.cell? ⟨w.heap.size + 1, 1, none⟩ = some (.int .i64 0) := cell_of hkp.2 rfl
  have r2 : w2.cell? ⟨w.heap.size + 1, 2, none⟩ = some (.int .i64 0) := cell_of hkp.2 rfl
  have r3 : w2.cell? ⟨w.heap.size + 1, 3, none⟩ = some (.string ⟨#[]⟩) := cell_of hkp.2 rfl
  have fa : ∀ i, w2.frozen? ⟨w.heap.size + 1 + 1, i, none⟩ = false := fun i => frozen_of hkp.1
  have fr : ∀ i, w2.frozen? ⟨w.heap.size + 1, i, none⟩ = false := fun i => frozen_of hkp.2
  have HS : Hid (WStp px pa ph B C S (twinsS S a r).2.2.2.2 (doW w ⟨4, a, b, c, s, t⟩) w2) := hs
  have HP2 : Hid (w2.heap[w.heap.size + 1 + 1]? = some (.cells (ansCells 0 0 0 ⟨#[]⟩) 65 (0, 0)) ∧ w2.heap[w.heap.size + 1]? = some (.cells (ansCells 0 0 0 ⟨#[]⟩) 65 (0, 0))) := hkp
  have EA : Hid (ansD S ⟨4, a, b, c, s, t⟩ = ⟨(twinsS S a 0).2.2.2.1, (twinsS S a 0).1, (twinsS S a 0).2.1, (twinsS S a 0).2.2.1⟩ ∧ stepD S ⟨4, a, b, c, s, t⟩ r = (twinsS S a r).2.2.2.2) := by
    show _ ∧ _
    constructor
    · simp [ansD]
    · simp [stepD]
  have HA : Hid (AOk (stepD S ⟨4, a, b, c, s, t⟩ r).A) := (stepD_ok HO.out H.out.pos _ _).aok
  clear hs hkp hst hrb
  go_wp2
  refine do_ret (R := w.heap.size + 1) rfl (ans_row (by omega) HP2.out.1 HP2.out.2 (Chg.px (Chg.px (Chg.px (Chg.px (Chg.refl _ _))))) _ _ _ _) ⟨r, fun _ hn => HRB.out hn, ?_, ?_⟩
  · rw [EA.out.1]
    try rfl
  · have hA := HA.out
    rw [EA.out.2] at hA ⊢
    exact WStp.fin H.out HO.out.aok hA HS.out (ans_chg (Chg.px (Chg.px (Chg.px (Chg.px (Chg.refl _ _))))) _ _ _ _)

set_option maxHeartbeats 4000000 in
set_option maxRecDepth 4000 in
theorem do_note {w : World} {px pa ph : Nat} {B C : Nat → Nat} {S : WS} (h : WAt w px pa ph B C S) (ho : S.ok) (hcap : ∀ j, j < 7 → S.cn j < 4611686018427387904) (o : OpD) (hk : o.kind = 5) :
    Calls Try.prog 49 #[pt px, opV o] w (DoP px pa ph B C S o w) := by
  have H : Hid (WAt w px pa ph B C S) := h
  have HO : Hid S.ok := ho
  have HCAP : Hid (∀ j, j < 7 → S.cn j < 4611686018427387904) := hcap
  obtain ⟨kind, a, b, c, s, t⟩ := o
  simp only at hk
  subst hk
  have H0 : Hid (WAt (doW w ⟨5, a, b, c, s, t⟩) px pa ph B C S) := h.chg ho.aok (doW_chg _ _ []) (by simp)
  clear h ho hcap
  unfold opV
  go_enter Try.func49, Try.ntmps49
  go_wp2_with fail
  refine (note_calls (w := doW w ⟨5, a, b, c, s, t⟩) H0.out HO.out HCAP.out a b).mono ?_
  rintro x w2 ⟨rfl, hst⟩
  have hs : WStp px pa ph B C S (noteS S a b).2 (doW w ⟨5, a, b, c, s, t⟩) w2 := hst
  have hkp := doW_keep (H.out.lt HO.out.aok) hs.chg
  have a0 : w2.cell? ⟨w.heap.size + 1 + 1, 0, none⟩ = some (.int .i64 0) := cell_of hkp.1 rfl
  have a1 : w2.cell? ⟨w.heap.size + 1 + 1, 1, none⟩ = some (.int .i64 0) := cell_of hkp.1 rfl
  have a2 : w2.cell? ⟨w.heap.size + 1 + 1, 2, none⟩ = some (.int .i64 0) := cell_of hkp.1 rfl
  have a3 : w2.cell? ⟨w.heap.size + 1 + 1, 3, none⟩ = some (.string ⟨#[]⟩) := cell_of hkp.1 rfl
  have r0 : w2.cell? ⟨w.heap.size + 1, 0, none⟩ = some (.int .i64 0) := cell_of hkp.2 rfl
  have r1 : w2.cell? ⟨w.heap.size + 1, 1, none⟩ = some (.int .i64 0) := cell_of hkp.2 rfl
  have r2 : w2.cell? ⟨w.heap.size + 1, 2, none⟩ = some (.int .i64 0) := cell_of hkp.2 rfl
  have r3 : w2.cell? ⟨w.heap.size + 1, 3, none⟩ = some (.string ⟨#[]⟩) := cell_of hkp.2 rfl
  have fa : ∀ i, w2.frozen? ⟨w.heap.size + 1 + 1, i, none⟩ = false := fun i => frozen_of hkp.1
  have fr : ∀ i, w2.frozen? ⟨w.heap.size + 1, i, none⟩ = false := fun i => frozen_of hkp.2
  have HS : Hid (WStp px pa ph B C S (noteS S a b).2 (doW w ⟨5, a, b, c, s, t⟩) w2) := hs
  have HP2 : Hid (w2.heap[w.heap.size + 1 + 1]? = some (.cells (ansCells 0 0 0 ⟨#[]⟩) 65 (0, 0)) ∧ w2.heap[w.heap.size + 1]? = some (.cells (ansCells 0 0 0 ⟨#[]⟩) 65 (0, 0))) := hkp
  have EA : Hid (ansD S ⟨5, a, b, c, s, t⟩ = ⟨(noteS S a b).1, 0, 0, ⟨#[]⟩⟩ ∧ stepD S ⟨5, a, b, c, s, t⟩ 0 = (noteS S a b).2) := by
    show _ ∧ _
    constructor
    · simp [ansD]
    · simp [stepD]
  have HA : Hid (AOk (stepD S ⟨5, a, b, c, s, t⟩ 0).A) := (stepD_ok HO.out H.out.pos _ _).aok
  clear hs hkp hst
  go_wp2
  refine do_ret (R := w.heap.size + 1) rfl (ans_row (by omega) HP2.out.1 HP2.out.2 (Chg.px (Chg.refl _ _)) _ _ _ _) ⟨0, (by intro hx; simp at hx), ?_, ?_⟩
  · rw [EA.out.1]
    try rfl
  · have hA := HA.out
    rw [EA.out.2] at hA ⊢
    exact WStp.fin H.out HO.out.aok hA HS.out (ans_chg (Chg.px (Chg.refl _ _)) _ _ _ _)

set_option maxHeartbeats 4000000 in
set_option maxRecDepth 4000 in
theorem do_count {w : World} {px pa ph : Nat} {B C : Nat → Nat} {S : WS} (h : WAt w px pa ph B C S) (ho : S.ok) (hcap : ∀ j, j < 7 → S.cn j < 4611686018427387904) (o : OpD) (hk : o.kind = 6) :
    Calls Try.prog 49 #[pt px, opV o] w (DoP px pa ph B C S o w) := by
  have H : Hid (WAt w px pa ph B C S) := h
  have HO : Hid S.ok := ho
  have HCAP : Hid (∀ j, j < 7 → S.cn j < 4611686018427387904) := hcap
  obtain ⟨kind, a, b, c, s, t⟩ := o
  simp only at hk
  subst hk
  have H0 : Hid (WAt (doW w ⟨6, a, b, c, s, t⟩) px pa ph B C S) := h.chg ho.aok (doW_chg _ _ []) (by simp)
  clear h ho hcap
  unfold opV
  go_enter Try.func49, Try.ntmps49
  go_wp2_with fail
  refine (count_calls (w := doW w ⟨6, a, b, c, s, t⟩) H0.out HO.out a b).mono ?_
  rintro x w2 ⟨rfl, hcc⟩
  have hs : WStp px pa ph B C S S (doW w ⟨6, a, b, c, s, t⟩) w2 := WStp.same H0.out HO.out.aok hcc
  have hkp := doW_keep (H.out.lt HO.out.aok) hs.chg
  have a0 : w2.cell? ⟨w.heap.size + 1 + 1, 0, none⟩ = some (.int .i64 0) := cell_of hkp.1 rfl
  have a1 : w2.cell? ⟨w.heap.size + 1 + 1, 1, none⟩ = some (.int .i64 0) := cell_of hkp.1 rfl
  have a2 : w2.cell? ⟨w.heap.size + 1 + 1, 2, none⟩ = some (.int .i64 0) := cell_of hkp.1 rfl
  have a3 : w2.cell? ⟨w.heap.size + 1 + 1, 3, none⟩ = some (.string ⟨#[]⟩) := cell_of hkp.1 rfl
  have r0 : w2.cell? ⟨w.heap.size + 1, 0, none⟩ = some (.int .i64 0) := cell_of hkp.2 rfl
  have r1 : w2.cell? ⟨w.heap.size + 1, 1, none⟩ = some (.int .i64 0) := cell_of hkp.2 rfl
  have r2 : w2.cell? ⟨w.heap.size + 1, 2, none⟩ = some (.int .i64 0) := cell_of hkp.2 rfl
  have r3 : w2.cell? ⟨w.heap.size + 1, 3, none⟩ = some (.string ⟨#[]⟩) := cell_of hkp.2 rfl
  have fa : ∀ i, w2.frozen? ⟨w.heap.size + 1 + 1, i, none⟩ = false := fun i => frozen_of hkp.1
  have fr : ∀ i, w2.frozen? ⟨w.heap.size + 1, i, none⟩ = false := fun i => frozen_of hkp.2
  have HS : Hid (WStp px pa ph B C S S (doW w ⟨6, a, b, c, s, t⟩) w2) := hs
  have HP2 : Hid (w2.heap[w.heap.size + 1 + 1]? = some (.cells (ansCells 0 0 0 ⟨#[]⟩) 65 (0, 0)) ∧ w2.heap[w.heap.size + 1]? = some (.cells (ansCells 0 0 0 ⟨#[]⟩) 65 (0, 0))) := hkp
  have EA : Hid (ansD S ⟨6, a, b, c, s, t⟩ = ⟨(countS S a b).2, (countS S a b).1, 0, ⟨#[]⟩⟩ ∧ stepD S ⟨6, a, b, c, s, t⟩ 0 = S) := by
    show _ ∧ _
    constructor
    · simp [ansD]
    · simp [stepD]
  have HA : Hid (AOk (stepD S ⟨6, a, b, c, s, t⟩ 0).A) := (stepD_ok HO.out H.out.pos _ _).aok
  clear hs hkp hcc
  go_wp2
  refine do_ret (R := w.heap.size + 1) rfl (ans_row (by omega) HP2.out.1 HP2.out.2 (Chg.px (Chg.px (Chg.refl _ _))) _ _ _ _) ⟨0, (by intro hx; simp at hx), ?_, ?_⟩
  · rw [EA.out.1]
    try rfl
  · have hA := HA.out
    rw [EA.out.2] at hA ⊢
    exact WStp.fin H.out HO.out.aok hA HS.out (ans_chg (Chg.px (Chg.px (Chg.refl _ _))) _ _ _ _)

set_option maxHeartbeats 4000000 in
set_option maxRecDepth 4000 in
theorem do_drop {w : World} {px pa ph : Nat} {B C : Nat → Nat} {S : WS} (h : WAt w px pa ph B C S) (ho : S.ok) (hcap : ∀ j, j < 7 → S.cn j < 4611686018427387904) (o : OpD) (hk : o.kind = 7) :
    Calls Try.prog 49 #[pt px, opV o] w (DoP px pa ph B C S o w) := by
  have H : Hid (WAt w px pa ph B C S) := h
  have HO : Hid S.ok := ho
  have HCAP : Hid (∀ j, j < 7 → S.cn j < 4611686018427387904) := hcap
  obtain ⟨kind, a, b, c, s, t⟩ := o
  simp only at hk
  subst hk
  have H0 : Hid (WAt (doW w ⟨7, a, b, c, s, t⟩) px pa ph B C S) := h.chg ho.aok (doW_chg _ _ []) (by simp)
  clear h ho hcap
  unfold opV
  go_enter Try.func49, Try.ntmps49
  go_wp2_with fail
  refine (drop_calls (w := doW w ⟨7, a, b, c, s, t⟩) H0.out HO.out a b).mono ?_
  rintro x w2 ⟨rfl, hst⟩
  have hs : WStp px pa ph B C S (dropS S a b).2.2 (doW w ⟨7, a, b, c, s, t⟩) w2 := hst
  have hkp := doW_keep (H.out.lt HO.out.aok) hs.chg
  have a0 : w2.cell? ⟨w.heap.size + 1 + 1, 0, none⟩ = some (.int .i64 0) := cell_of hkp.1 rfl
  have a1 : w2.cell? ⟨w.heap.size + 1 + 1, 1, none⟩ = some (.int .i64 0) := cell_of hkp.1 rfl
  have a2 : w2.cell? ⟨w.heap.size + 1 + 1, 2, none⟩ = some (.int .i64 0) := cell_of hkp.1 rfl
  have a3 : w2.cell? ⟨w.heap.size + 1 + 1, 3, none⟩ = some (.string ⟨#[]⟩) := cell_of hkp.1 rfl
  have r0 : w2.cell? ⟨w.heap.size + 1, 0, none⟩ = some (.int .i64 0) := cell_of hkp.2 rfl
  have r1 : w2.cell? ⟨w.heap.size + 1, 1, none⟩ = some (.int .i64 0) := cell_of hkp.2 rfl
  have r2 : w2.cell? ⟨w.heap.size + 1, 2, none⟩ = some (.int .i64 0) := cell_of hkp.2 rfl
  have r3 : w2.cell? ⟨w.heap.size + 1, 3, none⟩ = some (.string ⟨#[]⟩) := cell_of hkp.2 rfl
  have fa : ∀ i, w2.frozen? ⟨w.heap.size + 1 + 1, i, none⟩ = false := fun i => frozen_of hkp.1
  have fr : ∀ i, w2.frozen? ⟨w.heap.size + 1, i, none⟩ = false := fun i => frozen_of hkp.2
  have HS : Hid (WStp px pa ph B C S (dropS S a b).2.2 (doW w ⟨7, a, b, c, s, t⟩) w2) := hs
  have HP2 : Hid (w2.heap[w.heap.size + 1 + 1]? = some (.cells (ansCells 0 0 0 ⟨#[]⟩) 65 (0, 0)) ∧ w2.heap[w.heap.size + 1]? = some (.cells (ansCells 0 0 0 ⟨#[]⟩) 65 (0, 0))) := hkp
  have EA : Hid (ansD S ⟨7, a, b, c, s, t⟩ = ⟨(dropS S a b).2.1, (dropS S a b).1, 0, ⟨#[]⟩⟩ ∧ stepD S ⟨7, a, b, c, s, t⟩ 0 = (dropS S a b).2.2) := by
    show _ ∧ _
    constructor
    · simp [ansD]
    · simp [stepD]
  have HA : Hid (AOk (stepD S ⟨7, a, b, c, s, t⟩ 0).A) := (stepD_ok HO.out H.out.pos _ _).aok
  clear hs hkp hst
  go_wp2
  refine do_ret (R := w.heap.size + 1) rfl (ans_row (by omega) HP2.out.1 HP2.out.2 (Chg.px (Chg.px (Chg.refl _ _))) _ _ _ _) ⟨0, (by intro hx; simp at hx), ?_, ?_⟩
  · rw [EA.out.1]
    try rfl
  · have hA := HA.out
    rw [EA.out.2] at hA ⊢
    exact WStp.fin H.out HO.out.aok hA HS.out (ans_chg (Chg.px (Chg.px (Chg.refl _ _))) _ _ _ _)

set_option maxHeartbeats 4000000 in
set_option maxRecDepth 4000 in
theorem do_size {w : World} {px pa ph : Nat} {B C : Nat → Nat} {S : WS} (h : WAt w px pa ph B C S) (ho : S.ok) (hcap : ∀ j, j < 7 → S.cn j < 4611686018427387904) (o : OpD) (hk : o.kind = 8) :
    Calls Try.prog 49 #[pt px, opV o] w (DoP px pa ph B C S o w) := by
  have H : Hid (WAt w px pa ph B C S) := h
  have HO : Hid S.ok := ho
  have HCAP : Hid (∀ j, j < 7 → S.cn j < 4611686018427387904) := hcap
  obtain ⟨kind, a, b, c, s, t⟩ := o
  simp only at hk
  subst hk
  have H0 : Hid (WAt (doW w ⟨8, a, b, c, s, t⟩) px pa ph B C S) := h.chg ho.aok (doW_chg _ _ []) (by simp)
  clear h ho hcap
  unfold opV
  go_enter Try.func49, Try.ntmps49
  go_wp2_with fail
  refine (size_calls (w := doW w ⟨8, a, b, c, s, t⟩) H0.out).mono ?_
  rintro x w2 ⟨rfl, hw2⟩
  have hcc : Chg [] (doW w ⟨8, a, b, c, s, t⟩) w2 := by rw [hw2]; exact Chg.refl _ _
  clear hw2
  have hs : WStp px pa ph B C S S (doW w ⟨8, a, b, c, s, t⟩) w2 := WStp.same H0.out HO.out.aok hcc
  have hkp := doW_keep (H.out.lt HO.out.aok) hs.chg
  have a0 : w2.cell? ⟨w.heap.size + 1 + 1, 0, none⟩ = some (.int .i64 0) := cell_of hkp.1 rfl
  have a1 : w2.cell? ⟨w.heap.size + 1 + 1, 1, none⟩ = some (.int .i64 0) := cell_of hkp.1 rfl
  have a2 : w2.cell? ⟨w.heap.size + 1 + 1, 2, none⟩ = some (.int .i64 0) := cell_of hkp.1 rfl
  have a3 : w2.cell? ⟨w.heap.size + 1 + 1, 3, none⟩ = some (.string ⟨#[]⟩) := cell_of hkp.1 rfl
  have r0 : w2.cell? ⟨w.heap.size + 1, 0, none⟩ = some (.int .i64 0) := cell_of hkp.2 rfl
  have r1 : w2.cell? ⟨w.heap.size + 1, 1, none⟩ = some (.int .i64 0) := cell_of hkp.2 rfl
  have r2 : w2.cell? ⟨w.heap.size + 1, 2, none⟩ = some (.int .i64 0) := cell_of hkp.2 rfl
  have r3 : w2.cell? ⟨w.heap.size + 1, 3, none⟩ = some (.string ⟨#[]⟩) := cell_of hkp.2 rfl
  have fa : ∀ i, w2.frozen? ⟨w.heap.size + 1 + 1, i, none⟩ = false := fun i => frozen_of hkp.1
  have fr : ∀ i, w2.frozen? ⟨w.heap.size + 1, i, none⟩ = false := fun i => frozen_of hkp.2
  have HS : Hid (WStp px pa ph B C S S (doW w ⟨8, a, b, c, s, t⟩) w2) := hs
  have HP2 : Hid (w2.heap[w.heap.size + 1 + 1]? = some (.cells (ansCells 0 0 0 ⟨#[]⟩) 65 (0, 0)) ∧ w2.heap[w.heap.size + 1]? = some (.cells (ansCells 0 0 0 ⟨#[]⟩) 65 (0, 0))) := hkp
  have EA : Hid (ansD S ⟨8, a, b, c, s, t⟩ = ⟨0, sizeS S, 0, ⟨#[]⟩⟩ ∧ stepD S ⟨8, a, b, c, s, t⟩ 0 = S) := by
    show _ ∧ _
    constructor
    · simp [ansD]
    · simp [stepD]
  have HA : Hid (AOk (stepD S ⟨8, a, b, c, s, t⟩ 0).A) := (stepD_ok HO.out H.out.pos _ _).aok
  clear hs hkp hcc
  go_wp2
  refine do_ret (R := w.heap.size + 1) rfl (ans_row (by omega) HP2.out.1 HP2.out.2 (Chg.px (Chg.refl _ _)) _ _ _ _) ⟨0, (by intro hx; simp at hx), ?_, ?_⟩
  · rw [EA.out.1]
    try rfl
  · have hA := HA.out
    rw [EA.out.2] at hA ⊢
    exact WStp.fin H.out HO.out.aok hA HS.out (ans_chg (Chg.px (Chg.refl _ _)) _ _ _ _)

set_option maxHeartbeats 4000000 in
set_option maxRecDepth 4000 in
theorem do_nans {w : World} {px pa ph : Nat} {B C : Nat → Nat} {S : WS} (h : WAt w px pa ph B C S) (ho : S.ok) (hcap : ∀ j, j < 7 → S.cn j < 4611686018427387904) (o : OpD) (hk : o.kind = 9) :
    Calls Try.prog 49 #[pt px, opV o] w (DoP px pa ph B C S o w) := by
  have H : Hid (WAt w px pa ph B C S) := h
  have HO : Hid S.ok := ho
  have HCAP : Hid (∀ j, j < 7 → S.cn j < 4611686018427387904) := hcap
  obtain ⟨kind, a, b, c, s, t⟩ := o
  simp only at hk
  subst hk
  have H0 : Hid (WAt (doW w ⟨9, a, b, c, s, t⟩) px pa ph B C S) := h.chg ho.aok (doW_chg _ _ []) (by simp)
  clear h ho hcap
  unfold opV
  go_enter Try.func49, Try.ntmps49
  go_wp2_with fail
  refine (nans_calls (w := doW w ⟨9, a, b, c, s, t⟩) H0.out HO.out).mono ?_
  rintro x w2 ⟨rfl, hcc⟩
  have hs : WStp px pa ph B C S S (doW w ⟨9, a, b, c, s, t⟩) w2 := WStp.same H0.out HO.out.aok hcc
  have hkp := doW_keep (H.out.lt HO.out.aok) hs.chg
  have a0 : w2.cell? ⟨w.heap.size + 1 + 1, 0, none⟩ = some (.int .i64 0) := cell_of hkp.1 rfl
  have a1 : w2.cell? ⟨w.heap.size + 1 + 1, 1, none⟩ = some (.int .i64 0) := cell_of hkp.1 rfl
  have a2 : w2.cell? ⟨w.heap.size + 1 + 1, 2, none⟩ = some (.int .i64 0) := cell_of hkp.1 rfl
  have a3 : w2.cell? ⟨w.heap.size + 1 + 1, 3, none⟩ = some (.string ⟨#[]⟩) := cell_of hkp.1 rfl
  have r0 : w2.cell? ⟨w.heap.size + 1, 0, none⟩ = some (.int .i64 0) := cell_of hkp.2 rfl
  have r1 : w2.cell? ⟨w.heap.size + 1, 1, none⟩ = some (.int .i64 0) := cell_of hkp.2 rfl
  have r2 : w2.cell? ⟨w.heap.size + 1, 2, none⟩ = some (.int .i64 0) := cell_of hkp.2 rfl
  have r3 : w2.cell? ⟨w.heap.size + 1, 3, none⟩ = some (.string ⟨#[]⟩) := cell_of hkp.2 rfl
  have fa : ∀ i, w2.frozen? ⟨w.heap.size + 1 + 1, i, none⟩ = false := fun i => frozen_of hkp.1
  have fr : ∀ i, w2.frozen? ⟨w.heap.size + 1, i, none⟩ = false := fun i => frozen_of hkp.2
  have HS : Hid (WStp px pa ph B C S S (doW w ⟨9, a, b, c, s, t⟩) w2) := hs
  have HP2 : Hid (w2.heap[w.heap.size + 1 + 1]? = some (.cells (ansCells 0 0 0 ⟨#[]⟩) 65 (0, 0)) ∧ w2.heap[w.heap.size + 1]? = some (.cells (ansCells 0 0 0 ⟨#[]⟩) 65 (0, 0))) := hkp
  have EA : Hid (ansD S ⟨9, a, b, c, s, t⟩ = ⟨0, S.nn, 0, ⟨#[]⟩⟩ ∧ stepD S ⟨9, a, b, c, s, t⟩ 0 = S) := by
    show _ ∧ _
    constructor
    · simp [ansD]
    · simp [stepD]
  have HA : Hid (AOk (stepD S ⟨9, a, b, c, s, t⟩ 0).A) := (stepD_ok HO.out H.out.pos _ _).aok
  clear hs hkp hcc
  go_wp2
  refine do_ret (R := w.heap.size + 1) rfl (ans_row (by omega) HP2.out.1 HP2.out.2 (Chg.px (Chg.refl _ _)) _ _ _ _) ⟨0, (by intro hx; simp at hx), ?_, ?_⟩
  · rw [EA.out.1]
    try rfl
  · have hA := HA.out
    rw [EA.out.2] at hA ⊢
    exact WStp.fin H.out HO.out.aok hA HS.out (ans_chg (Chg.px (Chg.refl _ _)) _ _ _ _)

set_option maxHeartbeats 4000000 in
set_option maxRecDepth 4000 in
theorem do_wipe {w : World} {px pa ph : Nat} {B C : Nat → Nat} {S : WS} (h : WAt w px pa ph B C S) (ho : S.ok) (hcap : ∀ j, j < 7 → S.cn j < 4611686018427387904) (o : OpD) (hk : o.kind = 10) :
    Calls Try.prog 49 #[pt px, opV o] w (DoP px pa ph B C S o w) := by
  have H : Hid (WAt w px pa ph B C S) := h
  have HO : Hid S.ok := ho
  have HCAP : Hid (∀ j, j < 7 → S.cn j < 4611686018427387904) := hcap
  obtain ⟨kind, a, b, c, s, t⟩ := o
  simp only at hk
  subst hk
  have H0 : Hid (WAt (doW w ⟨10, a, b, c, s, t⟩) px pa ph B C S) := h.chg ho.aok (doW_chg _ _ []) (by simp)
  clear h ho hcap
  unfold opV
  go_enter Try.func49, Try.ntmps49
  go_wp2_with fail
  refine (wipe_calls (w := doW w ⟨10, a, b, c, s, t⟩) H0.out HO.out).mono ?_
  rintro x w2 ⟨rfl, hst⟩
  have hs : WStp px pa ph B C S (wipeS S) (doW w ⟨10, a, b, c, s, t⟩) w2 := hst
  have hkp := doW_keep (H.out.lt HO.out.aok) hs.chg
  have a0 : w2.cell? ⟨w.heap.size + 1 + 1, 0, none⟩ = some (.int .i64 0) := cell_of hkp.1 rfl
  have a1 : w2.cell? ⟨w.heap.size + 1 + 1, 1, none⟩ = some (.int .i64 0) := cell_of hkp.1 rfl
  have a2 : w2.cell? ⟨w.heap.size + 1 + 1, 2, none⟩ = some (.int .i64 0) := cell_of hkp.1 rfl
  have a3 : w2.cell? ⟨w.heap.size + 1 + 1, 3, none⟩ = some (.string ⟨#[]⟩) := cell_of hkp.1 rfl
  have r0 : w2.cell? ⟨w.heap.size + 1, 0, none⟩ = some (.int .i64 0) := cell_of hkp.2 rfl
  have r1 : w2.cell? ⟨w.heap.size + 1, 1, none⟩ = some (.int .i64 0) := cell_of hkp.2 rfl
  have r2 : w2.cell? ⟨w.heap.size + 1, 2, none⟩ = some (.int .i64 0) := cell_of hkp.2 rfl
  have r3 : w2.cell? ⟨w.heap.size + 1, 3, none⟩ = some (.string ⟨#[]⟩) := cell_of hkp.2 rfl
  have fa : ∀ i, w2.frozen? ⟨w.heap.size + 1 + 1, i, none⟩ = false := fun i => frozen_of hkp.1
  have fr : ∀ i, w2.frozen? ⟨w.heap.size + 1, i, none⟩ = false := fun i => frozen_of hkp.2
  have HS : Hid (WStp px pa ph B C S (wipeS S) (doW w ⟨10, a, b, c, s, t⟩) w2) := hs
  have HP2 : Hid (w2.heap[w.heap.size + 1 + 1]? = some (.cells (ansCells 0 0 0 ⟨#[]⟩) 65 (0, 0)) ∧ w2.heap[w.heap.size + 1]? = some (.cells (ansCells 0 0 0 ⟨#[]⟩) 65 (0, 0))) := hkp
  have EA : Hid (ansD S ⟨10, a, b, c, s, t⟩ = ⟨0, sizeS S, 0, ⟨#[]⟩⟩ ∧ stepD S ⟨10, a, b, c, s, t⟩ 0 = (wipeS S)) := by
    show _ ∧ _
    constructor
    · simp [ansD]
    · simp [stepD]
  have HA : Hid (AOk (stepD S ⟨10, a, b, c, s, t⟩ 0).A) := (stepD_ok HO.out H.out.pos _ _).aok
  clear hs hkp hst
  go_wp2
  refine do_ret (R := w.heap.size + 1) rfl (ans_row (by omega) HP2.out.1 HP2.out.2 (Chg.px (Chg.refl _ _)) _ _ _ _) ⟨0, (by intro hx; simp at hx), ?_, ?_⟩
  · rw [EA.out.1]
    try rfl
  · have hA := HA.out
    rw [EA.out.2] at hA ⊢
    exact WStp.fin H.out HO.out.aok hA HS.out (ans_chg (Chg.px (Chg.refl _ _)) _ _ _ _)

set_option maxHeartbeats 4000000 in
set_option maxRecDepth 4000 in
theorem do_prune {w : World} {px pa ph : Nat} {B C : Nat → Nat} {S : WS} (h : WAt w px pa ph B C S) (ho : S.ok) (hcap : ∀ j, j < 7 → S.cn j < 4611686018427387904) (o : OpD) (hk : o.kind = 13) :
    Calls Try.prog 49 #[pt px, opV o] w (DoP px pa ph B C S o w) := by
  have H : Hid (WAt w px pa ph B C S) := h
  have HO : Hid S.ok := ho
  have HCAP : Hid (∀ j, j < 7 → S.cn j < 4611686018427387904) := hcap
  obtain ⟨kind, a, b, c, s, t⟩ := o
  simp only at hk
  subst hk
  have H0 : Hid (WAt (doW w ⟨13, a, b, c, s, t⟩) px pa ph B C S) := h.chg ho.aok (doW_chg _ _ []) (by simp)
  clear h ho hcap
  unfold opV
  go_enter Try.func49, Try.ntmps49
  go_wp2_with fail
  refine (prune_calls (w := doW w ⟨13, a, b, c, s, t⟩) H0.out HO.out a).mono ?_
  rintro x w2 ⟨rfl, hst⟩
  have hs : WStp px pa ph B C S (pruneS S a) (doW w ⟨13, a, b, c, s, t⟩) w2 := hst
  have hkp := doW_keep (H.out.lt HO.out.aok) hs.chg
  have a0 : w2.cell? ⟨w.heap.size + 1 + 1, 0, none⟩ = some (.int .i64 0) := cell_of hkp.1 rfl
  have a1 : w2.cell? ⟨w.heap.size + 1 + 1, 1, none⟩ = some (.int .i64 0) := cell_of hkp.1 rfl
  have a2 : w2.cell? ⟨w.heap.size + 1 + 1, 2, none⟩ = some (.int .i64 0) := cell_of hkp.1 rfl
  have a3 : w2.cell? ⟨w.heap.size + 1 + 1, 3, none⟩ = some (.string ⟨#[]⟩) := cell_of hkp.1 rfl
  have r0 : w2.cell? ⟨w.heap.size + 1, 0, none⟩ = some (.int .i64 0) := cell_of hkp.2 rfl
  have r1 : w2.cell? ⟨w.heap.size + 1, 1, none⟩ = some (.int .i64 0) := cell_of hkp.2 rfl
  have r2 : w2.cell? ⟨w.heap.size + 1, 2, none⟩ = some (.int .i64 0) := cell_of hkp.2 rfl
  have r3 : w2.cell? ⟨w.heap.size + 1, 3, none⟩ = some (.string ⟨#[]⟩) := cell_of hkp.2 rfl
  have fa : ∀ i, w2.frozen? ⟨w.heap.size + 1 + 1, i, none⟩ = false := fun i => frozen_of hkp.1
  have fr : ∀ i, w2.frozen? ⟨w.heap.size + 1, i, none⟩ = false := fun i => frozen_of hkp.2
  have HS : Hid (WStp px pa ph B C S (pruneS S a) (doW w ⟨13, a, b, c, s, t⟩) w2) := hs
  have HP2 : Hid (w2.heap[w.heap.size + 1 + 1]? = some (.cells (ansCells 0 0 0 ⟨#[]⟩) 65 (0, 0)) ∧ w2.heap[w.heap.size + 1]? = some (.cells (ansCells 0 0 0 ⟨#[]⟩) 65 (0, 0))) := hkp
  have EA : Hid (ansD S ⟨13, a, b, c, s, t⟩ = ⟨0, sizeS S - sizeS (pruneS S a), 0, ⟨#[]⟩⟩ ∧ stepD S ⟨13, a, b, c, s, t⟩ 0 = (pruneS S a)) := by
    show _ ∧ _
    constructor
    · simp [ansD]
    · simp [stepD]
  have HA : Hid (AOk (stepD S ⟨13, a, b, c, s, t⟩ 0).A) := (stepD_ok HO.out H.out.pos _ _).aok
  clear hs hkp hst
  go_wp2
  refine do_ret (R := w.heap.size + 1) rfl (ans_row (by omega) HP2.out.1 HP2.out.2 (Chg.px (Chg.refl _ _)) _ _ _ _) ⟨0, (by intro hx; simp at hx), ?_, ?_⟩
  · rw [EA.out.1]
    try rfl
  · have hA := HA.out
    rw [EA.out.2] at hA ⊢
    exact WStp.fin H.out HO.out.aok hA HS.out (ans_chg (Chg.px (Chg.refl _ _)) _ _ _ _)

set_option maxHeartbeats 4000000 in
set_option maxRecDepth 4000 in
theorem do_show {w : World} {px pa ph : Nat} {B C : Nat → Nat} {S : WS} (h : WAt w px pa ph B C S) (ho : S.ok) (hcap : ∀ j, j < 7 → S.cn j < 4611686018427387904) (o : OpD) (hk : o.kind = 11) :
    Calls Try.prog 49 #[pt px, opV o] w (DoP px pa ph B C S o w) := by
  have H : Hid (WAt w px pa ph B C S) := h
  have HO : Hid S.ok := ho
  have HCAP : Hid (∀ j, j < 7 → S.cn j < 4611686018427387904) := hcap
  obtain ⟨kind, a, b, c, s, t⟩ := o
  simp only at hk
  subst hk
  have H0 : Hid (WAt (doW w ⟨11, a, b, c, s, t⟩) px pa ph B C S) := h.chg ho.aok (doW_chg _ _ []) (by simp)
  clear h ho hcap
  unfold opV
  go_enter Try.func49, Try.ntmps49
  go_wp2_with fail
  refine (show_calls (w := doW w ⟨11, a, b, c, s, t⟩) H0.out HO.out HCAP.out).mono ?_
  rintro x w2 ⟨rfl, hcc⟩
  have hs : WStp px pa ph B C S S (doW w ⟨11, a, b, c, s, t⟩) w2 := WStp.same H0.out HO.out.aok hcc
  have hkp := doW_keep (H.out.lt HO.out.aok) hs.chg
  have a0 : w2.cell? ⟨w.heap.size + 1 + 1, 0, none⟩ = some (.int .i64 0) := cell_of hkp.1 rfl
  have a1 : w2.cell? ⟨w.heap.size + 1 + 1, 1, none⟩ = some (.int .i64 0) := cell_of hkp.1 rfl
  have a2 : w2.cell? ⟨w.heap.size + 1 + 1, 2, none⟩ = some (.int .i64 0) := cell_of hkp.1 rfl
  have a3 : w2.cell? ⟨w.heap.size + 1 + 1, 3, none⟩ = some (.string ⟨#[]⟩) := cell_of hkp.1 rfl
  have r0 : w2.cell? ⟨w.heap.size + 1, 0, none⟩ = some (.int .i64 0) := cell_of hkp.2 rfl
  have r1 : w2.cell? ⟨w.heap.size + 1, 1, none⟩ = some (.int .i64 0) := cell_of hkp.2 rfl
  have r2 : w2.cell? ⟨w.heap.size + 1, 2, none⟩ = some (.int .i64 0) := cell_of hkp.2 rfl
  have r3 : w2.cell? ⟨w.heap.size + 1, 3, none⟩ = some (.string ⟨#[]⟩) := cell_of hkp.2 rfl
  have fa : ∀ i, w2.frozen? ⟨w.heap.size + 1 + 1, i, none⟩ = false := fun i => frozen_of hkp.1
  have fr : ∀ i, w2.frozen? ⟨w.heap.size + 1, i, none⟩ = false := fun i => frozen_of hkp.2
  have HS : Hid (WStp px pa ph B C S S (doW w ⟨11, a, b, c, s, t⟩) w2) := hs
  have HP2 : Hid (w2.heap[w.heap.size + 1 + 1]? = some (.cells (ansCells 0 0 0 ⟨#[]⟩) 65 (0, 0)) ∧ w2.heap[w.heap.size + 1]? = some (.cells (ansCells 0 0 0 ⟨#[]⟩) 65 (0, 0))) := hkp
  have EA : Hid (ansD S ⟨11, a, b, c, s, t⟩ = ⟨0, 0, 0, showS S⟩ ∧ stepD S ⟨11, a, b, c, s, t⟩ 0 = S) := by
    show _ ∧ _
    constructor
    · simp [ansD]
    · simp [stepD]
  have HA : Hid (AOk (stepD S ⟨11, a, b, c, s, t⟩ 0).A) := (stepD_ok HO.out H.out.pos _ _).aok
  clear hs hkp hcc
  go_wp2
  refine do_ret (R := w.heap.size + 1) rfl (ans_row (by omega) HP2.out.1 HP2.out.2 (Chg.px (Chg.refl _ _)) _ _ _ _) ⟨0, (by intro hx; simp at hx), ?_, ?_⟩
  · rw [EA.out.1]
    try rfl
  · have hA := HA.out
    rw [EA.out.2] at hA ⊢
    exact WStp.fin H.out HO.out.aok hA HS.out (ans_chg (Chg.px (Chg.refl _ _)) _ _ _ _)

set_option maxHeartbeats 4000000 in
set_option maxRecDepth 4000 in
theorem do_check {w : World} {px pa ph : Nat} {B C : Nat → Nat} {S : WS} (h : WAt w px pa ph B C S) (ho : S.ok) (hcap : ∀ j, j < 7 → S.cn j < 4611686018427387904) (o : OpD) (hk : o.kind = 12) :
    Calls Try.prog 49 #[pt px, opV o] w (DoP px pa ph B C S o w) := by
  have H : Hid (WAt w px pa ph B C S) := h
  have HO : Hid S.ok := ho
  have HCAP : Hid (∀ j, j < 7 → S.cn j < 4611686018427387904) := hcap
  obtain ⟨kind, a, b, c, s, t⟩ := o
  simp only at hk
  subst hk
  have H0 : Hid (WAt (doW w ⟨12, a, b, c, s, t⟩) px pa ph B C S) := h.chg ho.aok (doW_chg _ _ []) (by simp)
  clear h ho hcap
  unfold opV
  go_enter Try.func49, Try.ntmps49
  go_wp2_with fail
  refine (wcheck_calls (w := doW w ⟨12, a, b, c, s, t⟩) H0.out HO.out).mono ?_
  rintro x w2 ⟨rfl, hcc⟩
  have hs : WStp px pa ph B C S S (doW w ⟨12, a, b, c, s, t⟩) w2 := WStp.same H0.out HO.out.aok hcc
  have hkp := doW_keep (H.out.lt HO.out.aok) hs.chg
  have a0 : w2.cell? ⟨w.heap.size + 1 + 1, 0, none⟩ = some (.int .i64 0) := cell_of hkp.1 rfl
  have a1 : w2.cell? ⟨w.heap.size + 1 + 1, 1, none⟩ = some (.int .i64 0) := cell_of hkp.1 rfl
  have a2 : w2.cell? ⟨w.heap.size + 1 + 1, 2, none⟩ = some (.int .i64 0) := cell_of hkp.1 rfl
  have a3 : w2.cell? ⟨w.heap.size + 1 + 1, 3, none⟩ = some (.string ⟨#[]⟩) := cell_of hkp.1 rfl
  have r0 : w2.cell? ⟨w.heap.size + 1, 0, none⟩ = some (.int .i64 0) := cell_of hkp.2 rfl
  have r1 : w2.cell? ⟨w.heap.size + 1, 1, none⟩ = some (.int .i64 0) := cell_of hkp.2 rfl
  have r2 : w2.cell? ⟨w.heap.size + 1, 2, none⟩ = some (.int .i64 0) := cell_of hkp.2 rfl
  have r3 : w2.cell? ⟨w.heap.size + 1, 3, none⟩ = some (.string ⟨#[]⟩) := cell_of hkp.2 rfl
  have fa : ∀ i, w2.frozen? ⟨w.heap.size + 1 + 1, i, none⟩ = false := fun i => frozen_of hkp.1
  have fr : ∀ i, w2.frozen? ⟨w.heap.size + 1, i, none⟩ = false := fun i => frozen_of hkp.2
  have HS : Hid (WStp px pa ph B C S S (doW w ⟨12, a, b, c, s, t⟩) w2) := hs
  have HP2 : Hid (w2.heap[w.heap.size + 1 + 1]? = some (.cells (ansCells 0 0 0 ⟨#[]⟩) 65 (0, 0)) ∧ w2.heap[w.heap.size + 1]? = some (.cells (ansCells 0 0 0 ⟨#[]⟩) 65 (0, 0))) := hkp
  have EA : Hid (ansD S ⟨12, a, b, c, s, t⟩ = ⟨0, 1, 0, ⟨#[]⟩⟩ ∧ stepD S ⟨12, a, b, c, s, t⟩ 0 = S) := by
    show _ ∧ _
    constructor
    · simp [ansD]
    · simp [stepD]
  have HA : Hid (AOk (stepD S ⟨12, a, b, c, s, t⟩ 0).A) := (stepD_ok HO.out H.out.pos _ _).aok
  clear hs hkp hcc
  go_wp2
  refine do_ret (R := w.heap.size + 1) rfl (ans_row (by omega) HP2.out.1 HP2.out.2 (Chg.px (Chg.refl _ _)) _ _ _ _) ⟨0, (by intro hx; simp at hx), ?_, ?_⟩
  · rw [EA.out.1]
    try rfl
  · have hA := HA.out
    rw [EA.out.2] at hA ⊢
    exact WStp.fin H.out HO.out.aok hA HS.out (ans_chg (Chg.px (Chg.refl _ _)) _ _ _ _)

set_option maxHeartbeats 4000000 in
set_option maxRecDepth 4000 in
theorem do_none {w : World} {px pa ph : Nat} {B C : Nat → Nat} {S : WS} (h : WAt w px pa ph B C S) (ho : S.ok) (o : OpD) (k1 : ¬ o.kind = 1) (k2 : ¬ o.kind = 2) (k3 : ¬ o.kind = 3) (k4 : ¬ o.kind = 4) (k5 : ¬ o.kind = 5) (k6 : ¬ o.kind = 6) (k7 : ¬ o.kind = 7) (k8 : ¬ o.kind = 8) (k9 : ¬ o.kind = 9) (k10 : ¬ o.kind = 10) (k13 : ¬ o.kind = 13) (k11 : ¬ o.kind = 11) (k12 : ¬ o.kind = 12) :
    Calls Try.prog 49 #[pt px, opV o] w (DoP px pa ph B C S o w) := by
  have H : Hid (WAt w px pa ph B C S) := h
  have HO : Hid S.ok := ho
  have EA : Hid (ansD S o = ⟨0, 0, 0, ⟨#[]⟩⟩ ∧ stepD S o 0 = S ∧ ¬ (o.kind = 3 ∨ o.kind = 4)) := by
    show _ ∧ _
    exact ⟨by simp [ansD, k1, k2, k3, k4, k5, k6, k7, k8, k9, k10, k13, k11, k12], by simp [stepD, k1, k2, k3, k4, k5, k6, k7, k8, k9, k10, k13, k11, k12], by simp [k3, k4]⟩
  obtain ⟨kind, a, b, c, s, t⟩ := o
  simp only at k1 k2 k3 k4 k5 k6 k7 k8 k9 k10 k13 k11 k12
  have j1 : (kind == 1) = false := by simpa using k1
  have j2 : (kind == 2) = false := by simpa using k2
  have j3 : (kind == 3) = false := by simpa using k3
  have j4 : (kind == 4) = false := by simpa using k4
  have j5 : (kind == 5) = false := by simpa using k5
  have j6 : (kind == 6) = false := by simpa using k6
  have j7 : (kind == 7) = false := by simpa using k7
  have j8 : (kind == 8) = false := by simpa using k8
  have j9 : (kind == 9) = false := by simpa using k9
  have j10 : (kind == 10) = false := by simpa using k10
  have j13 : (kind == 13) = false := by simpa using k13
  have j11 : (kind == 11) = false := by simpa using k11
  have j12 : (kind == 12) = false := by simpa using k12
  clear h ho k1 k2 k3 k4 k5 k6 k7 k8 k9 k10 k13 k11 k12
  unfold opV
  go_enter Try.func49, Try.ntmps49
  go_wp2
  refine do_ret (R := w.heap.size + 1) rfl (doW_r w ⟨kind, a, b, c, s, t⟩) ⟨0, fun hx => absurd hx EA.out.2.2, ?_, ?_⟩
  · rw [EA.out.1]
  · rw [EA.out.2.1]
    exact WStp.same H.out HO.out.aok (doW_chg w ⟨kind, a, b, c, s, t⟩ [])

theorem do_calls {w : World} {px pa ph : Nat} {B C : Nat → Nat} {S : WS} (h : WAt w px pa ph B C S) (ho : S.ok) (hcap : ∀ j, j < 7 → S.cn j < 4611686018427387904) (o : OpD) :
    Calls Try.prog 49 #[pt px, opV o] w (DoP px pa ph B C S o w) := by
  by_cases k1 : o.kind = 1
  · exact do_link h ho hcap o k1
  by_cases k2 : o.kind = 2
  · exact do_cut h ho hcap o k2
  by_cases k3 : o.kind = 3
  · exact do_reach h ho hcap o k3
  by_cases k4 : o.kind = 4
  · exact do_twins h ho hcap o k4
  by_cases k5 : o.kind = 5
  · exact do_note h ho hcap o k5
  by_cases k6 : o.kind = 6
  · exact do_count h ho hcap o k6
  by_cases k7 : o.kind = 7
  · exact do_drop h ho hcap o k7
  by_cases k8 : o.kind = 8
  · exact do_size h ho hcap o k8
  by_cases k9 : o.kind = 9
  · exact do_nans h ho hcap o k9
  by_cases k10 : o.kind = 10
  · exact do_wipe h ho hcap o k10
  by_cases k13 : o.kind = 13
  · exact do_prune h ho hcap o k13
  by_cases k11 : o.kind = 11
  · exact do_show h ho hcap o k11
  by_cases k12 : o.kind = 12
  · exact do_check h ho hcap o k12
  exact do_none h ho o k1 k2 k3 k4 k5 k6 k7 k8 k9 k10 k13 k11 k12
end Go.Proofs.Qxb6500374a.W
