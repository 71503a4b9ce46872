import Derived.Test.Qxb6500374aMr
set_option linter.unusedVariables false
set_option linter.unusedSimpArgs false
namespace Go.Proofs.Qxb6500374a.W
open Go.RowKit Go.Maps

theorem MdAt.like {w : World} {pd pA pC : Nat} {lo hi : Int} {S S' : WS} (h : MdAt w pd pA pC lo hi S) (hA : S'.A = S.A) (hc : S'.cn = S.cn) (hn : S'.nn = S.nn) : MdAt w pd pA pC lo hi S' :=
  ⟨by rw [hn]; exact h.row, by rw [hA]; exact h.adj, by rw [hc]; exact h.cnt, h.ap1, h.ap2, h.ap3⟩
theorem MStp.like {w w' : World} {pd pA pC : Nat} {lo hi : Int} {S S' : WS} (h : MStp pd pA pC S lo hi w w') (hA : S'.A = S.A) (hc : S'.cn = S.cn) (hn : S'.nn = S.nn) : MStp pd pA pC S' lo hi w w' := ⟨h.at_.like hA hc hn, h.chg⟩
theorem reachS_like (S : WS) (s : Int) (r : Nat) : (reachS S s r).2.2.2.A = S.A ∧ (reachS S s r).2.2.2.cn = S.cn ∧ (reachS S s r).2.2.2.nn = S.nn := by unfold reachS; split <;> exact ⟨rfl, rfl, rfl⟩
theorem twinsS_like (S : WS) (s : Int) (r : Nat) : (twinsS S s r).2.2.2.2.A = S.A ∧ (twinsS S s r).2.2.2.2.cn = S.cn ∧ (twinsS S s r).2.2.2.2.nn = S.nn := by unfold twinsS; split <;> exact ⟨rfl, rfl, rfl⟩

def loD (S : WS) (o : OpD) (lo : Int) : Int := if o.kind = 3 ∨ o.kind = 4 then loR S o.a lo else lo
def hiD (S : WS) (o : OpD) (hi : Int) : Int := if o.kind = 3 ∨ o.kind = 4 then hiR S o.a hi else hi

theorem MStp.fin {w w2 w3 : World} {o : OpD} {pd pA pC : Nat} {lo hi lo' hi' : Int} {S S' : WS} (h : MdAt w pd pA pC lo hi S) (hs : MStp pd pA pC S' lo' hi' (doW w o) w2) (hc : Chg [w.heap.size + 1 + 1, w.heap.size + 1] w2 w3) : MStp pd pA pC S' lo' hi' w w3 := by
  have hlt := h.lt
  refine ⟨hs.at_.chg hc ?_, doW_fin hs.chg hc⟩
  intro x hx hm
  have := hlt x hx
  simp only [List.mem_cons, List.not_mem_nil, or_false] at hm
  omega

theorem dom_ret {tmps : Array Value} {w3 : World} {R : Nat} {e n m : Int} {s : ByteArray} {Q : Ending → World → Prop} (hp : tmps.getD 4 undef = .pointer (some ⟨R, 0, none⟩)) (hr : w3.heap[R]? = some (.cells (ansCells e n m s) 65 (0, 0)))
    (h : Q (.returned (ansV ⟨e, n, m, s⟩)) w3) : bodyPost Try.prog Try.f59 Q Exit.ret { tmps := tmps, defers := [] } w3 :=
  bodyPost_ret (results_cell_row rfl _ _ R 65 _ (0, 0) _ hp hr Try.underlying65 rfl (by kernel_rfl)) rfl h

/-- The counts are within bounds. -/
def capOk (S : WS) : Prop := (∀ j, j < 7 → 0 ≤ S.cn j) ∧ ∀ j, j < 7 → S.cn j < 4611686018427387904

set_option maxHeartbeats 4000000 in
set_option maxRecDepth 4000 in
theorem dm_link {w : World} {pd pA pC : Nat} {lo hi : Int} {S : WS} (h : MdAt w pd pA pC lo hi S) (ho : S.ok) (hcap : capOk S) (o : OpD) (hk : o.kind = 1) :
    Calls Try.prog 59 #[pt pd, opV o] w fun x w' => x = .returned (ansV (ansD S o)) ∧ MStp pd pA pC (stepD S o 0) (loD S o lo) (hiD S o hi) w w' := by
  have H : Hid (MdAt w pd pA pC lo hi S) := h
  have HO : Hid S.ok := ho
  have HCAP : Hid (capOk S) := hcap
  obtain ⟨kind, a, b, c, s, t⟩ := o
  simp only at hk
  subst hk
  have H0 : Hid (MdAt (doW w ⟨1, a, b, c, s, t⟩) pd pA pC lo hi S) := h.chg (doW_chg _ _ []) (by simp)
  clear h ho hcap
  unfold opV
  go_enter Try.func59, Try.ntmps59
  go_wp2_with fail
  refine (mlink_calls (w := doW w ⟨1, a, b, c, s, t⟩) H0.out HO.out a b).mono ?_
  rintro x w2 ⟨rfl, hst⟩
  have hs : MStp pd pA pC (linkS S a b).2 lo hi (doW w ⟨1, a, b, c, s, t⟩) w2 := hst
  have hkp := doW_keep H.out.lt hs.chg
  have a0 : w2.cell? ⟨w.heap.size + 1 + 1, 0, none⟩ = some (.int .i64 0) := cell_of hkp.1 rfl
  have a1 : w2.cell? ⟨w.heap.size + 1 + 1, 1, none⟩ = some (.int .i64 0) := cell_of hkp.1 rfl
  have a2 : w2.cell? ⟨w.heap.size + 1 + 1, 2, none⟩ = some (.int .i64 0) := cell_of hkp.1 rfl
  have a3 : w2.cell? ⟨w.heap.size + 1 + 1, 3, none⟩ = some (.string ⟨#[]⟩) := cell_of hkp.1 rfl
  have r0 : w2.cell? ⟨w.heap.size + 1, 0, none⟩ = some (.int .i64 0) := cell_of hkp.2 rfl
  have r1 : w2.cell? ⟨w.heap.size + 1, 1, none⟩ = some (.int .i64 0) := cell_of hkp.2 rfl
  have r2 : w2.cell? ⟨w.heap.size + 1, 2, none⟩ = some (.int .i64 0) := cell_of hkp.2 rfl
  have r3 : w2.cell? ⟨w.heap.size + 1, 3, none⟩ = some (.string ⟨#[]⟩) := cell_of hkp.2 rfl
  have fa : ∀ i, w2.frozen? ⟨w.heap.size + 1 + 1, i, none⟩ = false := fun i => frozen_of hkp.1
  have fr : ∀ i, w2.frozen? ⟨w.heap.size + 1, i, none⟩ = false := fun i => frozen_of hkp.2
  have HS : Hid (MStp pd pA pC (linkS S a b).2 lo hi (doW w ⟨1, a, b, c, s, t⟩) w2) := hs
  have HP2 : Hid (w2.heap[w.heap.size + 1 + 1]? = some (.cells (ansCells 0 0 0 ⟨#[]⟩) 65 (0, 0)) ∧ w2.heap[w.heap.size + 1]? = some (.cells (ansCells 0 0 0 ⟨#[]⟩) 65 (0, 0))) := hkp
  have EA : Hid (ansD S ⟨1, a, b, c, s, t⟩ = ⟨(linkS S a b).1, 0, 0, ⟨#[]⟩⟩ ∧ stepD S ⟨1, a, b, c, s, t⟩ 0 = (linkS S a b).2 ∧ loD S ⟨1, a, b, c, s, t⟩ lo = lo ∧ hiD S ⟨1, a, b, c, s, t⟩ hi = hi) := by
    show _ ∧ _
    refine ⟨?_, ?_, ?_, ?_⟩
    · simp [ansD]
    · simp [stepD]
    · simp [loD]
    · simp [hiD]
  clear hs hkp hst
  go_wp2
  refine dom_ret (R := w.heap.size + 1) rfl (ans_row (by omega) HP2.out.1 HP2.out.2 (Chg.px (Chg.refl _ _)) _ _ _ _) ⟨?_, ?_⟩
  · rw [EA.out.1]
    try rfl
  · rw [EA.out.2.1, EA.out.2.2.1, EA.out.2.2.2]
    exact MStp.fin H.out HS.out (ans_chg (Chg.px (Chg.refl _ _)) _ _ _ _)

set_option maxHeartbeats 4000000 in
set_option maxRecDepth 4000 in
theorem dm_cut {w : World} {pd pA pC : Nat} {lo hi : Int} {S : WS} (h : MdAt w pd pA pC lo hi S) (ho : S.ok) (hcap : capOk S) (o : OpD) (hk : o.kind = 2) :
    Calls Try.prog 59 #[pt pd, opV o] w fun x w' => x = .returned (ansV (ansD S o)) ∧ MStp pd pA pC (stepD S o 0) (loD S o lo) (hiD S o hi) w w' := by
  have H : Hid (MdAt w pd pA pC lo hi S) := h
  have HO : Hid S.ok := ho
  have HCAP : Hid (capOk S) := hcap
  obtain ⟨kind, a, b, c, s, t⟩ := o
  simp only at hk
  subst hk
  have H0 : Hid (MdAt (doW w ⟨2, a, b, c, s, t⟩) pd pA pC lo hi S) := h.chg (doW_chg _ _ []) (by simp)
  clear h ho hcap
  unfold opV
  go_enter Try.func59, Try.ntmps59
  go_wp2_with fail
  refine (mcut_calls (w := doW w ⟨2, a, b, c, s, t⟩) H0.out HO.out a b).mono ?_
  rintro x w2 ⟨rfl, hst⟩
  have hs : MStp pd pA pC (cutS S a b).2 lo hi (doW w ⟨2, a, b, c, s, t⟩) w2 := hst
  have hkp := doW_keep H.out.lt hs.chg
  have a0 : w2.cell? ⟨w.heap.size + 1 + 1, 0, none⟩ = some (.int .i64 0) := cell_of hkp.1 rfl
  have a1 : w2.cell? ⟨w.heap.size + 1 + 1, 1, none⟩ = some (.int .i64 0) := cell_of hkp.1 rfl
  have a2 : w2.cell? ⟨w.heap.size + 1 + 1, 2, none⟩ = some (.int .i64 0) := cell_of hkp.1 rfl
  have a3 : w2.cell? ⟨w.heap.size + 1 + 1, 3, none⟩ = some (.string ⟨#[]⟩) := cell_of hkp.1 rfl
  have r0 : w2.cell? ⟨w.heap.size + 1, 0, none⟩ = some (.int .i64 0) := cell_of hkp.2 rfl
  have r1 : w2.cell? ⟨w.heap.size + 1, 1, none⟩ = some (.int .i64 0) := cell_of hkp.2 rfl
  have r2 : w2.cell? ⟨w.heap.size + 1, 2, none⟩ = some (.int .i64 0) := cell_of hkp.2 rfl
  have r3 : w2.cell? ⟨w.heap.size + 1, 3, none⟩ = some (.string ⟨#[]⟩) := cell_of hkp.2 rfl
  have fa : ∀ i, w2.frozen? ⟨w.heap.size + 1 + 1, i, none⟩ = false := fun i => frozen_of hkp.1
  have fr : ∀ i, w2.frozen? ⟨w.heap.size + 1, i, none⟩ = false := fun i => frozen_of hkp.2
  have HS : Hid (MStp pd pA pC (cutS S a b).2 lo hi (doW w ⟨2, a, b, c, s, t⟩) w2) := hs
  have HP2 : Hid (w2.heap[w.heap.size + 1 + 1]? = some (.cells (ansCells 0 0 0 ⟨#[]⟩) 65 (0, 0)) ∧ w2.heap[w.heap.size + 1]? = some (.cells (ansCells 0 0 0 ⟨#[]⟩) 65 (0, 0))) := hkp
  have EA : Hid (ansD S ⟨2, a, b, c, s, t⟩ = ⟨(cutS S a b).1, 0, 0, ⟨#[]⟩⟩ ∧ stepD S ⟨2, a, b, c, s, t⟩ 0 = (cutS S a b).2 ∧ loD S ⟨2, a, b, c, s, t⟩ lo = lo ∧ hiD S ⟨2, a, b, c, s, t⟩ hi = hi) := by
    show _ ∧ _
    refine ⟨?_, ?_, ?_, ?_⟩
    · simp [ansD]
    · simp [stepD]
    · simp [loD]
    · simp [hiD]
  clear hs hkp hst
  go_wp2
  refine dom_ret (R := w.heap.size + 1) rfl (ans_row (by omega) HP2.out.1 HP2.out.2 (Chg.px (Chg.refl _ _)) _ _ _ _) ⟨?_, ?_⟩
  · rw [EA.out.1]
    try rfl
  · rw [EA.out.2.1, EA.out.2.2.1, EA.out.2.2.2]
    exact MStp.fin H.out HS.out (ans_chg (Chg.px (Chg.refl _ _)) _ _ _ _)

set_option maxHeartbeats 4000000 in
set_option maxRecDepth 4000 in
theorem dm_reach {w : World} {pd pA pC : Nat} {lo hi : Int} {S : WS} (h : MdAt w pd pA pC lo hi S) (ho : S.ok) (hcap : capOk S) (o : OpD) (hk : o.kind = 3) :
    Calls Try.prog 59 #[pt pd, opV o] w fun x w' => x = .returned (ansV (ansD S o)) ∧ MStp pd pA pC (stepD S o 0) (loD S o lo) (hiD S o hi) w w' := by
  have H : Hid (MdAt w pd pA pC lo hi S) := h
  have HO : Hid S.ok := ho
  have HCAP : Hid (capOk S) := hcap
  obtain ⟨kind, a, b, c, s, t⟩ := o
  simp only at hk
  subst hk
  have H0 : Hid (MdAt (doW w ⟨3, a, b, c, s, t⟩) pd pA pC lo hi S) := h.chg (doW_chg _ _ []) (by simp)
  clear h ho hcap
  unfold opV
  go_enter Try.func59, Try.ntmps59
  go_wp2_with fail
  refine (mreach_calls (w := doW w ⟨3, a, b, c, s, t⟩) H0.out HO.out a).mono ?_
  rintro x w2 ⟨rfl, hst⟩
  have hs : MStp pd pA pC (reachS S a 0).2.2.2 (loR S a lo) (hiR S a hi) (doW w ⟨3, a, b, c, s, t⟩) w2 := hst.like (reachS_like S a 0).1 (reachS_like S a 0).2.1 (reachS_like S a 0).2.2
  have hkp := doW_keep H.out.lt hs.chg
  have a0 : w2.cell? ⟨w.heap.size + 1 + 1, 0, none⟩ = some (.int .i64 0) := cell_of hkp.1 rfl
  have a1 : w2.cell? ⟨w.heap.size + 1 + 1, 1, none⟩ = some (.int .i64 0) := cell_of hkp.1 rfl
  have a2 : w2.cell? ⟨w.heap.size + 1 + 1, 2, none⟩ = some (.int .i64 0) := cell_of hkp.1 rfl
  have a3 : w2.cell? ⟨w.heap.size + 1 + 1, 3, none⟩ = some (.string ⟨#[]⟩) := cell_of hkp.1 rfl
  have r0 : w2.cell? ⟨w.heap.size + 1, 0, none⟩ = some (.int .i64 0) := cell_of hkp.2 rfl
  have r1 : w2.cell? ⟨w.heap.size + 1, 1, none⟩ = some (.int .i64 0) := cell_of hkp.2 rfl
  have r2 : w2.cell? ⟨w.heap.size + 1, 2, none⟩ = some (.int .i64 0) := cell_of hkp.2 rfl
  have r3 : w2.cell? ⟨w.heap.size + 1, 3, none⟩ = some (.string ⟨#[]⟩) := cell_of hkp.2 rfl
  have fa : ∀ i, w2.frozen? ⟨w.heap.size + 1 + 1, i, none⟩ = false := fun i => frozen_of hkp.1
  have fr : ∀ i, w2.frozen? ⟨w.heap.size + 1, i, none⟩ = false := fun i => frozen_of hkp.2
  have HS : Hid (MStp pd pA pC (reachS S a 0).2.2.2 (loR S a lo) (hiR S a hi) (doW w ⟨3, a, b, c, s, t⟩) w2) := hs
  have HP2 : Hid (w2.heap[w.heap.size + 1 + 1]? = some (.cells (ansCells 0 0 0 ⟨#[]⟩) 65 (0, 0)) ∧ w2.heap[w.heap.size + 1]? = some (.cells (ansCells 0 0 0 ⟨#[]⟩) 65 (0, 0))) := hkp
  have EA : Hid (ansD S ⟨3, a, b, c, s, t⟩ = ⟨(reachS S a 0).2.2.1, (reachS S a 0).1, 0, (reachS S a 0).2.1⟩ ∧ stepD S ⟨3, a, b, c, s, t⟩ 0 = (reachS S a 0).2.2.2 ∧ loD S ⟨3, a, b, c, s, t⟩ lo = (loR S a lo) ∧ hiD S ⟨3, a, b, c, s, t⟩ hi = (hiR S a hi)) := by
    show _ ∧ _
    refine ⟨?_, ?_, ?_, ?_⟩
    · simp [ansD]
    · simp [stepD]
    · simp [loD]
    · simp [hiD]
  clear hs hkp hst
  go_wp2
  refine dom_ret (R := w.heap.size + 1) rfl (ans_row (by omega) HP2.out.1 HP2.out.2 (Chg.px (Chg.px (Chg.px (Chg.refl _ _)))) _ _ _ _) ⟨?_, ?_⟩
  · rw [EA.out.1]
    try rfl
  · rw [EA.out.2.1, EA.out.2.2.1, EA.out.2.2.2]
    exact MStp.fin H.out HS.out (ans_chg (Chg.px (Chg.px (Chg.px (Chg.refl _ _)))) _ _ _ _)

set_option maxHeartbeats 4000000 in
set_option maxRecDepth 4000 in
theorem dm_twins {w : World} {pd pA pC : Nat} {lo hi : Int} {S : WS} (h : MdAt w pd pA pC lo hi S) (ho : S.ok) (hcap : capOk S) (o : OpD) (hk : o.kind = 4) :
    Calls Try.prog 59 #[pt pd, opV o] w fun x w' => x = .returned (ansV (ansD S o)) ∧ MStp pd pA pC (stepD S o 0) (loD S o lo) (hiD S o hi) w w' := by
  have H : Hid (MdAt w pd pA pC lo hi S) := h
  have HO : Hid S.ok := ho
  have HCAP : Hid (capOk S) := hcap
  obtain ⟨kind, a, b, c, s, t⟩ := o
  simp only at hk
  subst hk
  have H0 : Hid (MdAt (doW w ⟨4, a, b, c, s, t⟩) pd pA pC lo hi S) := h.chg (doW_chg _ _ []) (by simp)
  clear h ho hcap
  unfold opV
  go_enter Try.func59, Try.ntmps59
  go_wp2_with fail
  refine (mtwins_calls (w := doW w ⟨4, a, b, c, s, t⟩) H0.out HO.out a).mono ?_
  rintro x w2 ⟨rfl, hst⟩
  have hs : MStp pd pA pC (twinsS S a 0).2.2.2.2 (loR S a lo) (hiR S a hi) (doW w ⟨4, a, b, c, s, t⟩) w2 := hst.like (twinsS_like S a 0).1 (twinsS_like S a 0).2.1 (twinsS_like S a 0).2.2
  have hkp := doW_keep H.out.lt hs.chg
  have a0 : w2.cell? ⟨w.heap.size + 1 + 1, 0, none⟩ = some (.int .i64 0) := cell_of hkp.1 rfl
  have a1 : w2.cell? ⟨w.heap.size + 1 + 1, 1, none⟩ = some (.int .i64 0) := cell_of hkp.1 rfl
  have a2 : w2.cell? ⟨w.heap.size + 1 + 1, 2, none⟩ = some (.int .i64 0) := cell_of hkp.1 rfl
  have a3 : w2.cell? ⟨w.heap.size + 1 + 1, 3, none⟩ = some (.string ⟨#[]⟩) := cell_of hkp.1 rfl
  have r0 : w2.cell? ⟨w.heap.size + 1, 0, none⟩ = some (.int .i64 0) := cell_of hkp.2 rfl
  have r1 : w2.cell? ⟨w.heap.size + 1, 1, none⟩ = some (.int .i64 0) := cell_of hkp.2 rfl
  have r2 : w2.cell? ⟨w.heap.size + 1, 2, none⟩ = some (.int .i64 0) := cell_of hkp.2 rfl
  have r3 : w2.cell? ⟨w.heap.size + 1, 3, none⟩ = some (.string ⟨#[]⟩) := cell_of hkp.2 rfl
  have fa : ∀ i, w2.frozen? ⟨w.heap.size + 1 + 1, i, none⟩ = false := fun i => frozen_of hkp.1
  have fr : ∀ i, w2.frozen? ⟨w.heap.size + 1, i, none⟩ = false := fun i => frozen_of hkp.2
  have HS : Hid (MStp pd pA pC (twinsS S a 0).2.2.2.2 (loR S a lo) (hiR S a hi) (doW w ⟨4, a, b, c, s, t⟩) w2) := hs
  have HP2 : Hid (w2.heap[w.heap.size + 1 + 1]? = some (.cells (ansCells 0 0 0 ⟨#[]⟩) 65 (0, 0)) ∧ w2.heap[w.heap.size + 1]? = some (.cells (ansCells 0 0 0 ⟨#[]⟩) 65 (0, 0))) := hkp
  have EA : Hid (ansD S ⟨4, a, b, c, s, t⟩ = ⟨(twinsS S a 0).2.2.2.1, (twinsS S a 0).1, (twinsS S a 0).2.1, (twinsS S a 0).2.2.1⟩ ∧ stepD S ⟨4, a, b, c, s, t⟩ 0 = (twinsS S a 0).2.2.2.2 ∧ loD S ⟨4, a, b, c, s, t⟩ lo = (loR S a lo) ∧ hiD S ⟨4, a, b, c, s, t⟩ hi = (hiR S a hi)) := by
    show _ ∧ _
    refine ⟨?_, ?_, ?_, ?_⟩
    · simp [ansD]
    · simp [stepD]
    · simp [loD]
    · simp [hiD]
  clear hs hkp hst
  go_wp2
  refine dom_ret (R := w.heap.size + 1) rfl (ans_row (by omega) HP2.out.1 HP2.out.2 (Chg.px (Chg.px (Chg.px (Chg.px (Chg.refl _ _))))) _ _ _ _) ⟨?_, ?_⟩
  · rw [EA.out.1]
    try rfl
  · rw [EA.out.2.1, EA.out.2.2.1, EA.out.2.2.2]
    exact MStp.fin H.out HS.out (ans_chg (Chg.px (Chg.px (Chg.px (Chg.px (Chg.refl _ _))))) _ _ _ _)

set_option maxHeartbeats 4000000 in
set_option maxRecDepth 4000 in
theorem dm_note {w : World} {pd pA pC : Nat} {lo hi : Int} {S : WS} (h : MdAt w pd pA pC lo hi S) (ho : S.ok) (hcap : capOk S) (o : OpD) (hk : o.kind = 5) :
    Calls Try.prog 59 #[pt pd, opV o] w fun x w' => x = .returned (ansV (ansD S o)) ∧ MStp pd pA pC (stepD S o 0) (loD S o lo) (hiD S o hi) w w' := by
  have H : Hid (MdAt w pd pA pC lo hi S) := h
  have HO : Hid S.ok := ho
  have HCAP : Hid (capOk S) := hcap
  obtain ⟨kind, a, b, c, s, t⟩ := o
  simp only at hk
  subst hk
  have H0 : Hid (MdAt (doW w ⟨5, a, b, c, s, t⟩) pd pA pC lo hi S) := h.chg (doW_chg _ _ []) (by simp)
  clear h ho hcap
  unfold opV
  go_enter Try.func59, Try.ntmps59
  go_wp2_with fail
  refine (mnote_calls (w := doW w ⟨5, a, b, c, s, t⟩) H0.out HO.out HCAP.out.1 HCAP.out.2 a b).mono ?_
  rintro x w2 ⟨rfl, hst⟩
  have hs : MStp pd pA pC (noteS S a b).2 lo hi (doW w ⟨5, a, b, c, s, t⟩) w2 := hst
  have hkp := doW_keep H.out.lt hs.chg
  have a0 : w2.cell? ⟨w.heap.size + 1 + 1, 0, none⟩ = some (.int .i64 0) := cell_of hkp.1 rfl
  have a1 : w2.cell? ⟨w.heap.size + 1 + 1, 1, none⟩ = some (.int .i64 0) := cell_of hkp.1 rfl
  have a2 : w2.cell? ⟨w.heap.size + 1 + 1, 2, none⟩ = some (.int .i64 0) := cell_of hkp.1 rfl
  have a3 : w2.cell? ⟨w.heap.size + 1 + 1, 3, none⟩ = some (.string ⟨#[]⟩) := cell_of hkp.1 rfl
  have r0 : w2.cell? ⟨w.heap.size + 1, 0, none⟩ = some (.int .i64 0) := cell_of hkp.2 rfl
  have r1 : w2.cell? ⟨w.heap.size + 1, 1, none⟩ = some (.int .i64 0) := cell_of hkp.2 rfl
  have r2 : w2.cell? ⟨w.heap.size + 1, 2, none⟩ = some (.int .i64 0) := cell_of hkp.2 rfl
  have r3 : w2.cell? ⟨w.heap.size + 1, 3, none⟩ = some (.string ⟨#[]⟩) := cell_of hkp.2 rfl
  have fa : ∀ i, w2.frozen? ⟨w.heap.size + 1 + 1, i, none⟩ = false := fun i => frozen_of hkp.1
  have fr : ∀ i, w2.frozen? ⟨w.heap.size + 1, i, none⟩ = false := fun i => frozen_of hkp.2
  have HS : Hid (MStp pd pA pC (noteS S a b).2 lo hi (doW w ⟨5, a, b, c, s, t⟩) w2) := hs
  have HP2 : Hid (w2.heap[w.heap.size + 1 + 1]? = some (.cells (ansCells 0 0 0 ⟨#[]⟩) 65 (0, 0)) ∧ w2.heap[w.heap.size + 1]? = some (.cells (ansCells 0 0 0 ⟨#[]⟩) 65 (0, 0))) := hkp
  have EA : Hid (ansD S ⟨5, a, b, c, s, t⟩ = ⟨(noteS S a b).1, 0, 0, ⟨#[]⟩⟩ ∧ stepD S ⟨5, a, b, c, s, t⟩ 0 = (noteS S a b).2 ∧ loD S ⟨5, a, b, c, s, t⟩ lo = lo ∧ hiD S ⟨5, a, b, c, s, t⟩ hi = hi) := by
    show _ ∧ _
    refine ⟨?_, ?_, ?_, ?_⟩
    · simp [ansD]
    · simp [stepD]
    · simp [loD]
    · simp [hiD]
  clear hs hkp hst
  go_wp2
  refine dom_ret (R := w.heap.size + 1) rfl (ans_row (by omega) HP2.out.1 HP2.out.2 (Chg.px (Chg.refl _ _)) _ _ _ _) ⟨?_, ?_⟩
  · rw [EA.out.1]
    try rfl
  · rw [EA.out.2.1, EA.out.2.2.1, EA.out.2.2.2]
    exact MStp.fin H.out HS.out (ans_chg (Chg.px (Chg.refl _ _)) _ _ _ _)

set_option maxHeartbeats 4000000 in
set_option maxRecDepth 4000 in
theorem dm_count {w : World} {pd pA pC : Nat} {lo hi : Int} {S : WS} (h : MdAt w pd pA pC lo hi S) (ho : S.ok) (hcap : capOk S) (o : OpD) (hk : o.kind = 6) :
    Calls Try.prog 59 #[pt pd, opV o] w fun x w' => x = .returned (ansV (ansD S o)) ∧ MStp pd pA pC (stepD S o 0) (loD S o lo) (hiD S o hi) w w' := by
  have H : Hid (MdAt w pd pA pC lo hi S) := h
  have HO : Hid S.ok := ho
  have HCAP : Hid (capOk S) := hcap
  obtain ⟨kind, a, b, c, s, t⟩ := o
  simp only at hk
  subst hk
  have H0 : Hid (MdAt (doW w ⟨6, a, b, c, s, t⟩) pd pA pC lo hi S) := h.chg (doW_chg _ _ []) (by simp)
  clear h ho hcap
  unfold opV
  go_enter Try.func59, Try.ntmps59
  go_wp2_with fail
  refine (mcount_calls (w := doW w ⟨6, a, b, c, s, t⟩) H0.out HO.out a b).mono ?_
  rintro x w2 ⟨rfl, hcc⟩
  have hs : MStp pd pA pC S lo hi (doW w ⟨6, a, b, c, s, t⟩) w2 := MStp.same H0.out hcc
  have hkp := doW_keep H.out.lt hs.chg
  have a0 : w2.cell? ⟨w.heap.size + 1 + 1, 0, none⟩ = some (.int .i64 0) := cell_of hkp.1 rfl
  have a1 : w2.cell? ⟨w.heap.size + 1 + 1, 1, none⟩ = some (.int .i64 0) := cell_of hkp.1 rfl
  have a2 : w2.cell? ⟨w.heap.size + 1 + 1, 2, none⟩ = some (.int .i64 0) := cell_of hkp.1 rfl
  have a3 : w2.cell? ⟨w.heap.size + 1 + 1, 3, none⟩ = some (.string ⟨#[]⟩) := cell_of hkp.1 rfl
  have r0 : w2.cell? ⟨w.heap.size + 1, 0, none⟩ = some (.int .i64 0) := cell_of hkp.2 rfl
  have r1 : w2.cell? ⟨w.heap.size + 1, 1, none⟩ = some (.int .i64 0) := cell_of hkp.2 rfl
  have r2 : w2.cell? ⟨w.heap.size + 1, 2, none⟩ = some (.int .i64 0) := cell_of hkp.2 rfl
  have r3 : w2.cell? ⟨w.heap.size + 1, 3, none⟩ = some (.string ⟨#[]⟩) := cell_of hkp.2 rfl
  have fa : ∀ i, w2.frozen? ⟨w.heap.size + 1 + 1, i, none⟩ = false := fun i => frozen_of hkp.1
  have fr : ∀ i, w2.frozen? ⟨w.heap.size + 1, i, none⟩ = false := fun i => frozen_of hkp.2
  have HS : Hid (MStp pd pA pC S lo hi (doW w ⟨6, a, b, c, s, t⟩) w2) := hs
  have HP2 : Hid (w2.heap[w.heap.size + 1 + 1]? = some (.cells (ansCells 0 0 0 ⟨#[]⟩) 65 (0, 0)) ∧ w2.heap[w.heap.size + 1]? = some (.cells (ansCells 0 0 0 ⟨#[]⟩) 65 (0, 0))) := hkp
  have EA : Hid (ansD S ⟨6, a, b, c, s, t⟩ = ⟨(countS S a b).2, (countS S a b).1, 0, ⟨#[]⟩⟩ ∧ stepD S ⟨6, a, b, c, s, t⟩ 0 = S ∧ loD S ⟨6, a, b, c, s, t⟩ lo = lo ∧ hiD S ⟨6, a, b, c, s, t⟩ hi = hi) := by
    show _ ∧ _
    refine ⟨?_, ?_, ?_, ?_⟩
    · simp [ansD]
    · simp [stepD]
    · simp [loD]
    · simp [hiD]
  clear hs hkp hcc
  go_wp2
  refine dom_ret (R := w.heap.size + 1) rfl (ans_row (by omega) HP2.out.1 HP2.out.2 (Chg.px (Chg.px (Chg.refl _ _))) _ _ _ _) ⟨?_, ?_⟩
  · rw [EA.out.1]
    try rfl
  · rw [EA.out.2.1, EA.out.2.2.1, EA.out.2.2.2]
    exact MStp.fin H.out HS.out (ans_chg (Chg.px (Chg.px (Chg.refl _ _))) _ _ _ _)

set_option maxHeartbeats 4000000 in
set_option maxRecDepth 4000 in
theorem dm_drop {w : World} {pd pA pC : Nat} {lo hi : Int} {S : WS} (h : MdAt w pd pA pC lo hi S) (ho : S.ok) (hcap : capOk S) (o : OpD) (hk : o.kind = 7) :
    Calls Try.prog 59 #[pt pd, opV o] w fun x w' => x = .returned (ansV (ansD S o)) ∧ MStp pd pA pC (stepD S o 0) (loD S o lo) (hiD S o hi) w w' := by
  have H : Hid (MdAt w pd pA pC lo hi S) := h
  have HO : Hid S.ok := ho
  have HCAP : Hid (capOk S) := hcap
  obtain ⟨kind, a, b, c, s, t⟩ := o
  simp only at hk
  subst hk
  have H0 : Hid (MdAt (doW w ⟨7, a, b, c, s, t⟩) pd pA pC lo hi S) := h.chg (doW_chg _ _ []) (by simp)
  clear h ho hcap
  unfold opV
  go_enter Try.func59, Try.ntmps59
  go_wp2_with fail
  refine (mdrop_calls (w := doW w ⟨7, a, b, c, s, t⟩) H0.out HO.out HCAP.out.1 a b).mono ?_
  rintro x w2 ⟨rfl, hst⟩
  have hs : MStp pd pA pC (dropS S a b).2.2 lo hi (doW w ⟨7, a, b, c, s, t⟩) w2 := hst
  have hkp := doW_keep H.out.lt hs.chg
  have a0 : w2.cell? ⟨w.heap.size + 1 + 1, 0, none⟩ = some (.int .i64 0) := cell_of hkp.1 rfl
  have a1 : w2.cell? ⟨w.heap.size + 1 + 1, 1, none⟩ = some (.int .i64 0) := cell_of hkp.1 rfl
  have a2 : w2.cell? ⟨w.heap.size + 1 + 1, 2, none⟩ = some (.int .i64 0) := cell_of hkp.1 rfl
  have a3 : w2.cell? ⟨w.heap.size + 1 + 1, 3, none⟩ = some (.string ⟨#[]⟩) := cell_of hkp.1 rfl
  have r0 : w2.cell? ⟨w.heap.size + 1, 0, none⟩ = some (.int .i64 0) := cell_of hkp.2 rfl
  have r1 : w2.cell? ⟨w.heap.size + 1, 1, none⟩ = some (.int .i64 0) := cell_of hkp.2 rfl
  have r2 : w2.cell? ⟨w.heap.size + 1, 2, none⟩ = some (.int .i64 0) := cell_of hkp.2 rfl
  have r3 : w2.cell? ⟨w.heap.size + 1, 3, none⟩ = some (.string ⟨#[]⟩) := cell_of hkp.2 rfl
  have fa : ∀ i, w2.frozen? ⟨w.heap.size + 1 + 1, i, none⟩ = false := fun i => frozen_of hkp.1
  have fr : ∀ i, w2.frozen? ⟨w.heap.size + 1, i, none⟩ = false := fun i => frozen_of hkp.2
  have HS : Hid (MStp pd pA pC (dropS S a b).2.2 lo hi (doW w ⟨7, a, b, c, s, t⟩) w2) := hs
  have HP2 : Hid (w2.heap[w.heap.size + 1 + 1]? = some (.cells (ansCells 0 0 0 ⟨#[]⟩) 65 (0, 0)) ∧ w2.heap[w.heap.size + 1]? = some (.cells (ansCells 0 0 0 ⟨#[]⟩) 65 (0, 0))) := hkp
  have EA : Hid (ansD S ⟨7, a, b, c, s, t⟩ = ⟨(dropS S a b).2.1, (dropS S a b).1, 0, ⟨#[]⟩⟩ ∧ stepD S ⟨7, a, b, c, s, t⟩ 0 = (dropS S a b).2.2 ∧ loD S ⟨7, a, b, c, s, t⟩ lo = lo ∧ hiD S ⟨7, a, b, c, s, t⟩ hi = hi) := by
    show _ ∧ _
    refine ⟨?_, ?_, ?_, ?_⟩
    · simp [ansD]
    · simp [stepD]
    · simp [loD]
    · simp [hiD]
  clear hs hkp hst
  go_wp2
  refine dom_ret (R := w.heap.size + 1) rfl (ans_row (by omega) HP2.out.1 HP2.out.2 (Chg.px (Chg.px (Chg.refl _ _))) _ _ _ _) ⟨?_, ?_⟩
  · rw [EA.out.1]
    try rfl
  · rw [EA.out.2.1, EA.out.2.2.1, EA.out.2.2.2]
    exact MStp.fin H.out HS.out (ans_chg (Chg.px (Chg.px (Chg.refl _ _))) _ _ _ _)

set_option maxHeartbeats 4000000 in
set_option maxRecDepth 4000 in
theorem dm_size {w : World} {pd pA pC : Nat} {lo hi : Int} {S : WS} (h : MdAt w pd pA pC lo hi S) (ho : S.ok) (hcap : capOk S) (o : OpD) (hk : o.kind = 8) :
    Calls Try.prog 59 #[pt pd, opV o] w fun x w' => x = .returned (ansV (ansD S o)) ∧ MStp pd pA pC (stepD S o 0) (loD S o lo) (hiD S o hi) w w' := by
  have H : Hid (MdAt w pd pA pC lo hi S) := h
  have HO : Hid S.ok := ho
  have HCAP : Hid (capOk S) := hcap
  obtain ⟨kind, a, b, c, s, t⟩ := o
  simp only at hk
  subst hk
  have H0 : Hid (MdAt (doW w ⟨8, a, b, c, s, t⟩) pd pA pC lo hi S) := h.chg (doW_chg _ _ []) (by simp)
  clear h ho hcap
  unfold opV
  go_enter Try.func59, Try.ntmps59
  go_wp2_with fail
  refine (msize_calls (w := doW w ⟨8, a, b, c, s, t⟩) H0.out HO.out).mono ?_
  rintro x w2 ⟨rfl, hw2⟩
  have hcc : Chg [] (doW w ⟨8, a, b, c, s, t⟩) w2 := by rw [hw2]; exact Chg.refl _ _
  clear hw2
  have hs : MStp pd pA pC S lo hi (doW w ⟨8, a, b, c, s, t⟩) w2 := MStp.same H0.out hcc
  have hkp := doW_keep H.out.lt hs.chg
  have a0 : w2.cell? ⟨w.heap.size + 1 + 1, 0, none⟩ = some (.int .i64 0) := cell_of hkp.1 rfl
  have a1 : w2.cell? ⟨w.heap.size + 1 + 1, 1, none⟩ = some (.int .i64 0) := cell_of hkp.1 rfl
  have a2 : w2.cell? ⟨w.heap.size + 1 + 1, 2, none⟩ = some (.int .i64 0) := cell_of hkp.1 rfl
  have a3 : w2.cell? ⟨w.heap.size + 1 + 1, 3, none⟩ = some (.string ⟨#[]⟩) := cell_of hkp.1 rfl
  have r0 : w2.cell? ⟨w.heap.size + 1, 0, none⟩ = some (.int .i64 0) := cell_of hkp.2 rfl
  have r1 : w2.cell? ⟨w.heap.size + 1, 1, none⟩ = some (.int .i64 0) := cell_of hkp.2 rfl
  have r2 : w2.cell? ⟨w.heap.size + 1, 2, none⟩ = some (.int .i64 0) := cell_of hkp.2 rfl
  have r3 : w2.cell? ⟨w.heap.size + 1, 3, none⟩ = some (.string ⟨#[]⟩) := cell_of hkp.2 rfl
  have fa : ∀ i, w2.frozen? ⟨w.heap.size + 1 + 1, i, none⟩ = false := fun i => frozen_of hkp.1
  have fr : ∀ i, w2.frozen? ⟨w.heap.size + 1, i, none⟩ = false := fun i => frozen_of hkp.2
  have HS : Hid (MStp pd pA pC S lo hi (doW w ⟨8, a, b, c, s, t⟩) w2) := hs
  have HP2 : Hid (w2.heap[w.heap.size + 1 + 1]? = some (.cells (ansCells 0 0 0 ⟨#[]⟩) 65 (0, 0)) ∧ w2.heap[w.heap.size + 1]? = some (.cells (ansCells 0 0 0 ⟨#[]⟩) 65 (0, 0))) := hkp
  have EA : Hid (ansD S ⟨8, a, b, c, s, t⟩ = ⟨0, sizeS S, 0, ⟨#[]⟩⟩ ∧ stepD S ⟨8, a, b, c, s, t⟩ 0 = S ∧ loD S ⟨8, a, b, c, s, t⟩ lo = lo ∧ hiD S ⟨8, a, b, c, s, t⟩ hi = hi) := by
    show _ ∧ _
    refine ⟨?_, ?_, ?_, ?_⟩
    · simp [ansD]
    · simp [stepD]
    · simp [loD]
    · simp [hiD]
  clear hs hkp hcc
  go_wp2
  refine dom_ret (R := w.heap.size + 1) rfl (ans_row (by omega) HP2.out.1 HP2.out.2 (Chg.px (Chg.refl _ _)) _ _ _ _) ⟨?_, ?_⟩
  · rw [EA.out.1]
    try rfl
  · rw [EA.out.2.1, EA.out.2.2.1, EA.out.2.2.2]
    exact MStp.fin H.out HS.out (ans_chg (Chg.px (Chg.refl _ _)) _ _ _ _)

set_option maxHeartbeats 4000000 in
set_option maxRecDepth 4000 in
theorem dm_nans {w : World} {pd pA pC : Nat} {lo hi : Int} {S : WS} (h : MdAt w pd pA pC lo hi S) (ho : S.ok) (hcap : capOk S) (o : OpD) (hk : o.kind = 9) :
    Calls Try.prog 59 #[pt pd, opV o] w fun x w' => x = .returned (ansV (ansD S o)) ∧ MStp pd pA pC (stepD S o 0) (loD S o lo) (hiD S o hi) w w' := by
  have H : Hid (MdAt w pd pA pC lo hi S) := h
  have HO : Hid S.ok := ho
  have HCAP : Hid (capOk S) := hcap
  obtain ⟨kind, a, b, c, s, t⟩ := o
  simp only at hk
  subst hk
  have H0 : Hid (MdAt (doW w ⟨9, a, b, c, s, t⟩) pd pA pC lo hi S) := h.chg (doW_chg _ _ []) (by simp)
  clear h ho hcap
  unfold opV
  go_enter Try.func59, Try.ntmps59
  go_wp2_with fail
  refine (mnans_calls (w := doW w ⟨9, a, b, c, s, t⟩) H0.out).mono ?_
  rintro x w2 ⟨rfl, hw2⟩
  have hcc : Chg [] (doW w ⟨9, a, b, c, s, t⟩) w2 := by rw [hw2]; exact Chg.refl _ _
  clear hw2
  have hs : MStp pd pA pC S lo hi (doW w ⟨9, a, b, c, s, t⟩) w2 := MStp.same H0.out hcc
  have hkp := doW_keep H.out.lt hs.chg
  have a0 : w2.cell? ⟨w.heap.size + 1 + 1, 0, none⟩ = some (.int .i64 0) := cell_of hkp.1 rfl
  have a1 : w2.cell? ⟨w.heap.size + 1 + 1, 1, none⟩ = some (.int .i64 0) := cell_of hkp.1 rfl
  have a2 : w2.cell? ⟨w.heap.size + 1 + 1, 2, none⟩ = some (.int .i64 0) := cell_of hkp.1 rfl
  have a3 : w2.cell? ⟨w.heap.size + 1 + 1, 3, none⟩ = some (.string ⟨#[]⟩) := cell_of hkp.1 rfl
  have r0 : w2.cell? ⟨w.heap.size + 1, 0, none⟩ = some (.int .i64 0) := cell_of hkp.2 rfl
  have r1 : w2.cell? ⟨w.heap.size + 1, 1, none⟩ = some (.int .i64 0) := cell_of hkp.2 rfl
  have r2 : w2.cell? ⟨w.heap.size + 1, 2, none⟩ = some (.int .i64 0) := cell_of hkp.2 rfl
  have r3 : w2.cell? ⟨w.heap.size + 1, 3, none⟩ = some (.string ⟨#[]⟩) := cell_of hkp.2 rfl
  have fa : ∀ i, w2.frozen? ⟨w.heap.size + 1 + 1, i, none⟩ = false := fun i => frozen_of hkp.1
  have fr : ∀ i, w2.frozen? ⟨w.heap.size + 1, i, none⟩ = false := fun i => frozen_of hkp.2
  have HS : Hid (MStp pd pA pC S lo hi (doW w ⟨9, a, b, c, s, t⟩) w2) := hs
  have HP2 : Hid (w2.heap[w.heap.size + 1 + 1]? = some (.cells (ansCells 0 0 0 ⟨#[]⟩) 65 (0, 0)) ∧ w2.heap[w.heap.size + 1]? = some (.cells (ansCells 0 0 0 ⟨#[]⟩) 65 (0, 0))) := hkp
  have EA : Hid (ansD S ⟨9, a, b, c, s, t⟩ = ⟨0, S.nn, 0, ⟨#[]⟩⟩ ∧ stepD S ⟨9, a, b, c, s, t⟩ 0 = S ∧ loD S ⟨9, a, b, c, s, t⟩ lo = lo ∧ hiD S ⟨9, a, b, c, s, t⟩ hi = hi) := by
    show _ ∧ _
    refine ⟨?_, ?_, ?_, ?_⟩
    · simp [ansD]
    · simp [stepD]
    · simp [loD]
    · simp [hiD]
  clear hs hkp hcc
  go_wp2
  refine dom_ret (R := w.heap.size + 1) rfl (ans_row (by omega) HP2.out.1 HP2.out.2 (Chg.px (Chg.refl _ _)) _ _ _ _) ⟨?_, ?_⟩
  · rw [EA.out.1]
    try rfl
  · rw [EA.out.2.1, EA.out.2.2.1, EA.out.2.2.2]
    exact MStp.fin H.out HS.out (ans_chg (Chg.px (Chg.refl _ _)) _ _ _ _)

set_option maxHeartbeats 4000000 in
set_option maxRecDepth 4000 in
theorem dm_wipe {w : World} {pd pA pC : Nat} {lo hi : Int} {S : WS} (h : MdAt w pd pA pC lo hi S) (ho : S.ok) (hcap : capOk S) (o : OpD) (hk : o.kind = 10) :
    Calls Try.prog 59 #[pt pd, opV o] w fun x w' => x = .returned (ansV (ansD S o)) ∧ MStp pd pA pC (stepD S o 0) (loD S o lo) (hiD S o hi) w w' := by
  have H : Hid (MdAt w pd pA pC lo hi S) := h
  have HO : Hid S.ok := ho
  have HCAP : Hid (capOk S) := hcap
  obtain ⟨kind, a, b, c, s, t⟩ := o
  simp only at hk
  subst hk
  have H0 : Hid (MdAt (doW w ⟨10, a, b, c, s, t⟩) pd pA pC lo hi S) := h.chg (doW_chg _ _ []) (by simp)
  clear h ho hcap
  unfold opV
  go_enter Try.func59, Try.ntmps59
  go_wp2_with fail
  refine (mwipe_calls (w := doW w ⟨10, a, b, c, s, t⟩) H0.out HO.out).mono ?_
  rintro x w2 ⟨rfl, hst⟩
  have hs : MStp pd pA pC (wipeS S) lo hi (doW w ⟨10, a, b, c, s, t⟩) w2 := hst
  have hkp := doW_keep H.out.lt hs.chg
  have a0 : w2.cell? ⟨w.heap.size + 1 + 1, 0, none⟩ = some (.int .i64 0) := cell_of hkp.1 rfl
  have a1 : w2.cell? ⟨w.heap.size + 1 + 1, 1, none⟩ = some (.int .i64 0) := cell_of hkp.1 rfl
  have a2 : w2.cell? ⟨w.heap.size + 1 + 1, 2, none⟩ = some (.int .i64 0) := cell_of hkp.1 rfl
  have a3 : w2.cell? ⟨w.heap.size + 1 + 1, 3, none⟩ = some (.string ⟨#[]⟩) := cell_of hkp.1 rfl
  have r0 : w2.cell? ⟨w.heap.size + 1, 0, none⟩ = some (.int .i64 0) := cell_of hkp.2 rfl
  have r1 : w2.cell? ⟨w.heap.size + 1, 1, none⟩ = some (.int .i64 0) := cell_of hkp.2 rfl
  have r2 : w2.cell? ⟨w.heap.size + 1, 2, none⟩ = some (.int .i64 0) := cell_of hkp.2 rfl
  have r3 : w2.cell? ⟨w.heap.size + 1, 3, none⟩ = some (.string ⟨#[]⟩) := cell_of hkp.2 rfl
  have fa : ∀ i, w2.frozen? ⟨w.heap.size + 1 + 1, i, none⟩ = false := fun i => frozen_of hkp.1
  have fr : ∀ i, w2.frozen? ⟨w.heap.size + 1, i, none⟩ = false := fun i => frozen_of hkp.2
  have HS : Hid (MStp pd pA pC (wipeS S) lo hi (doW w ⟨10, a, b, c, s, t⟩) w2) := hs
  have HP2 : Hid (w2.heap[w.heap.size + 1 + 1]? = some (.cells (ansCells 0 0 0 ⟨#[]⟩) 65 (0, 0)) ∧ w2.heap[w.heap.size + 1]? = some (.cells (ansCells 0 0 0 ⟨#[]⟩) 65 (0, 0))) := hkp
  have EA : Hid (ansD S ⟨10, a, b, c, s, t⟩ = ⟨0, sizeS S, 0, ⟨#[]⟩⟩ ∧ stepD S ⟨10, a, b, c, s, t⟩ 0 = (wipeS S) ∧ loD S ⟨10, a, b, c, s, t⟩ lo = lo ∧ hiD S ⟨10, a, b, c, s, t⟩ hi = hi) := by
    show _ ∧ _
    refine ⟨?_, ?_, ?_, ?_⟩
    · simp [ansD]
    · simp [stepD]
    · simp [loD]
    · simp [hiD]
  clear hs hkp hst
  go_wp2
  refine dom_ret (R := w.heap.size + 1) rfl (ans_row (by omega) HP2.out.1 HP2.out.2 (Chg.px (Chg.refl _ _)) _ _ _ _) ⟨?_, ?_⟩
  · rw [EA.out.1]
    try rfl
  · rw [EA.out.2.1, EA.out.2.2.1, EA.out.2.2.2]
    exact MStp.fin H.out HS.out (ans_chg (Chg.px (Chg.refl _ _)) _ _ _ _)

set_option maxHeartbeats 4000000 in
set_option maxRecDepth 4000 in
theorem dm_prune {w : World} {pd pA pC : Nat} {lo hi : Int} {S : WS} (h : MdAt w pd pA pC lo hi S) (ho : S.ok) (hcap : capOk S) (o : OpD) (hk : o.kind = 13) :
    Calls Try.prog 59 #[pt pd, opV o] w fun x w' => x = .returned (ansV (ansD S o)) ∧ MStp pd pA pC (stepD S o 0) (loD S o lo) (hiD S o hi) w w' := by
  have H : Hid (MdAt w pd pA pC lo hi S) := h
  have HO : Hid S.ok := ho
  have HCAP : Hid (capOk S) := hcap
  obtain ⟨kind, a, b, c, s, t⟩ := o
  simp only at hk
  subst hk
  have H0 : Hid (MdAt (doW w ⟨13, a, b, c, s, t⟩) pd pA pC lo hi S) := h.chg (doW_chg _ _ []) (by simp)
  clear h ho hcap
  unfold opV
  go_enter Try.func59, Try.ntmps59
  go_wp2_with fail
  refine (mprune_calls (w := doW w ⟨13, a, b, c, s, t⟩) H0.out HCAP.out.1 a).mono ?_
  rintro x w2 ⟨rfl, hst⟩
  have hs : MStp pd pA pC (pruneS S a) lo hi (doW w ⟨13, a, b, c, s, t⟩) w2 := hst
  have hkp := doW_keep H.out.lt hs.chg
  have a0 : w2.cell? ⟨w.heap.size + 1 + 1, 0, none⟩ = some (.int .i64 0) := cell_of hkp.1 rfl
  have a1 : w2.cell? ⟨w.heap.size + 1 + 1, 1, none⟩ = some (.int .i64 0) := cell_of hkp.1 rfl
  have a2 : w2.cell? ⟨w.heap.size + 1 + 1, 2, none⟩ = some (.int .i64 0) := cell_of hkp.1 rfl
  have a3 : w2.cell? ⟨w.heap.size + 1 + 1, 3, none⟩ = some (.string ⟨#[]⟩) := cell_of hkp.1 rfl
  have r0 : w2.cell? ⟨w.heap.size + 1, 0, none⟩ = some (.int .i64 0) := cell_of hkp.2 rfl
  have r1 : w2.cell? ⟨w.heap.size + 1, 1, none⟩ = some (.int .i64 0) := cell_of hkp.2 rfl
  have r2 : w2.cell? ⟨w.heap.size + 1, 2, none⟩ = some (.int .i64 0) := cell_of hkp.2 rfl
  have r3 : w2.cell? ⟨w.heap.size + 1, 3, none⟩ = some (.string ⟨#[]⟩) := cell_of hkp.2 rfl
  have fa : ∀ i, w2.frozen? ⟨w.heap.size + 1 + 1, i, none⟩ = false := fun i => frozen_of hkp.1
  have fr : ∀ i, w2.frozen? ⟨w.heap.size + 1, i, none⟩ = false := fun i => frozen_of hkp.2
  have HS : Hid (MStp pd pA pC (pruneS S a) lo hi (doW w ⟨13, a, b, c, s, t⟩) w2) := hs
  have HP2 : Hid (w2.heap[w.heap.size + 1 + 1]? = some (.cells (ansCells 0 0 0 ⟨#[]⟩) 65 (0, 0)) ∧ w2.heap[w.heap.size + 1]? = some (.cells (ansCells 0 0 0 ⟨#[]⟩) 65 (0, 0))) := hkp
  have EA : Hid (ansD S ⟨13, a, b, c, s, t⟩ = ⟨0, sizeS S - sizeS (pruneS S a), 0, ⟨#[]⟩⟩ ∧ stepD S ⟨13, a, b, c, s, t⟩ 0 = (pruneS S a) ∧ loD S ⟨13, a, b, c, s, t⟩ lo = lo ∧ hiD S ⟨13, a, b, c, s, t⟩ hi = hi) := by
    show _ ∧ _
    refine ⟨?_, ?_, ?_, ?_⟩
    · simp [ansD]
    · simp [stepD]
    · simp [loD]
    · simp [hiD]
  clear hs hkp hst
  go_wp2
  refine dom_ret (R := w.heap.size + 1) rfl (ans_row (by omega) HP2.out.1 HP2.out.2 (Chg.px (Chg.refl _ _)) _ _ _ _) ⟨?_, ?_⟩
  · rw [EA.out.1]
    try rfl
  · rw [EA.out.2.1, EA.out.2.2.1, EA.out.2.2.2]
    exact MStp.fin H.out HS.out (ans_chg (Chg.px (Chg.refl _ _)) _ _ _ _)

set_option maxHeartbeats 4000000 in
set_option maxRecDepth 4000 in
theorem dm_show {w : World} {pd pA pC : Nat} {lo hi : Int} {S : WS} (h : MdAt w pd pA pC lo hi S) (ho : S.ok) (hcap : capOk S) (o : OpD) (hk : o.kind = 11) :
    Calls Try.prog 59 #[pt pd, opV o] w fun x w' => x = .returned (ansV (ansD S o)) ∧ MStp pd pA pC (stepD S o 0) (loD S o lo) (hiD S o hi) w w' := by
  have H : Hid (MdAt w pd pA pC lo hi S) := h
  have HO : Hid S.ok := ho
  have HCAP : Hid (capOk S) := hcap
  obtain ⟨kind, a, b, c, s, t⟩ := o
  simp only at hk
  subst hk
  have H0 : Hid (MdAt (doW w ⟨11, a, b, c, s, t⟩) pd pA pC lo hi S) := h.chg (doW_chg _ _ []) (by simp)
  clear h ho hcap
  unfold opV
  go_enter Try.func59, Try.ntmps59
  go_wp2_with fail
  refine (mshow_calls (w := doW w ⟨11, a, b, c, s, t⟩) H0.out HO.out HCAP.out.1 HCAP.out.2).mono ?_
  rintro x w2 ⟨rfl, hcc⟩
  have hs : MStp pd pA pC S lo hi (doW w ⟨11, a, b, c, s, t⟩) w2 := MStp.same H0.out hcc
  have hkp := doW_keep H.out.lt hs.chg
  have a0 : w2.cell? ⟨w.heap.size + 1 + 1, 0, none⟩ = some (.int .i64 0) := cell_of hkp.1 rfl
  have a1 : w2.cell? ⟨w.heap.size + 1 + 1, 1, none⟩ = some (.int .i64 0) := cell_of hkp.1 rfl
  have a2 : w2.cell? ⟨w.heap.size + 1 + 1, 2, none⟩ = some (.int .i64 0) := cell_of hkp.1 rfl
  have a3 : w2.cell? ⟨w.heap.size + 1 + 1, 3, none⟩ = some (.string ⟨#[]⟩) := cell_of hkp.1 rfl
  have r0 : w2.cell? ⟨w.heap.size + 1, 0, none⟩ = some (.int .i64 0) := cell_of hkp.2 rfl
  have r1 : w2.cell? ⟨w.heap.size + 1, 1, none⟩ = some (.int .i64 0) := cell_of hkp.2 rfl
  have r2 : w2.cell? ⟨w.heap.size + 1, 2, none⟩ = some (.int .i64 0) := cell_of hkp.2 rfl
  have r3 : w2.cell? ⟨w.heap.size + 1, 3, none⟩ = some (.string ⟨#[]⟩) := cell_of hkp.2 rfl
  have fa : ∀ i, w2.frozen? ⟨w.heap.size + 1 + 1, i, none⟩ = false := fun i => frozen_of hkp.1
  have fr : ∀ i, w2.frozen? ⟨w.heap.size + 1, i, none⟩ = false := fun i => frozen_of hkp.2
  have HS : Hid (MStp pd pA pC S lo hi (doW w ⟨11, a, b, c, s, t⟩) w2) := hs
  have HP2 : Hid (w2.heap[w.heap.size + 1 + 1]? = some (.cells (ansCells 0 0 0 ⟨#[]⟩) 65 (0, 0)) ∧ w2.heap[w.heap.size + 1]? = some (.cells (ansCells 0 0 0 ⟨#[]⟩) 65 (0, 0))) := hkp
  have EA : Hid (ansD S ⟨11, a, b, c, s, t⟩ = ⟨0, 0, 0, showS S⟩ ∧ stepD S ⟨11, a, b, c, s, t⟩ 0 = S ∧ loD S ⟨11, a, b, c, s, t⟩ lo = lo ∧ hiD S ⟨11, a, b, c, s, t⟩ hi = hi) := by
    show _ ∧ _
    refine ⟨?_, ?_, ?_, ?_⟩
    · simp [ansD]
    · simp [stepD]
    · simp [loD]
    · simp [hiD]
  clear hs hkp hcc
  go_wp2
  refine dom_ret (R := w.heap.size + 1) rfl (ans_row (by omega) HP2.out.1 HP2.out.2 (Chg.px (Chg.refl _ _)) _ _ _ _) ⟨?_, ?_⟩
  · rw [EA.out.1]
    try rfl
  · rw [EA.out.2.1, EA.out.2.2.1, EA.out.2.2.2]
    exact MStp.fin H.out HS.out (ans_chg (Chg.px (Chg.refl _ _)) _ _ _ _)

set_option maxHeartbeats 4000000 in
set_option maxRecDepth 4000 in
theorem dm_check {w : World} {pd pA pC : Nat} {lo hi : Int} {S : WS} (h : MdAt w pd pA pC lo hi S) (ho : S.ok) (hcap : capOk S) (o : OpD) (hk : o.kind = 12) :
    Calls Try.prog 59 #[pt pd, opV o] w fun x w' => x = .returned (ansV (ansD S o)) ∧ MStp pd pA pC (stepD S o 0) (loD S o lo) (hiD S o hi) w w' := by
  have H : Hid (MdAt w pd pA pC lo hi S) := h
  have HO : Hid S.ok := ho
  have HCAP : Hid (capOk S) := hcap
  obtain ⟨kind, a, b, c, s, t⟩ := o
  simp only at hk
  subst hk
  have H0 : Hid (MdAt (doW w ⟨12, a, b, c, s, t⟩) pd pA pC lo hi S) := h.chg (doW_chg _ _ []) (by simp)
  clear h ho hcap
  unfold opV
  go_enter Try.func59, Try.ntmps59
  go_wp2_with fail
  refine (mcheck_calls (w := doW w ⟨12, a, b, c, s, t⟩) H0.out HO.out).mono ?_
  rintro x w2 ⟨rfl, hw2⟩
  have hcc : Chg [] (doW w ⟨12, a, b, c, s, t⟩) w2 := by rw [hw2]; exact Chg.refl _ _
  clear hw2
  have hs : MStp pd pA pC S lo hi (doW w ⟨12, a, b, c, s, t⟩) w2 := MStp.same H0.out hcc
  have hkp := doW_keep H.out.lt hs.chg
  have a0 : w2.cell? ⟨w.heap.size + 1 + 1, 0, none⟩ = some (.int .i64 0) := cell_of hkp.1 rfl
  have a1 : w2.cell? ⟨w.heap.size + 1 + 1, 1, none⟩ = some (.int .i64 0) := cell_of hkp.1 rfl
  have a2 : w2.cell? ⟨w.heap.size + 1 + 1, 2, none⟩ = some (.int .i64 0) := cell_of hkp.1 rfl
  have a3 : w2.cell? ⟨w.heap.size + 1 + 1, 3, none⟩ = some (.string ⟨#[]⟩) := cell_of hkp.1 rfl
  have r0 : w2.cell? ⟨w.heap.size + 1, 0, none⟩ = some (.int .i64 0) := cell_of hkp.2 rfl
  have r1 : w2.cell? ⟨w.heap.size + 1, 1, none⟩ = some (.int .i64 0) := cell_of hkp.2 rfl
  have r2 : w2.cell? ⟨w.heap.size + 1, 2, none⟩ = some (.int .i64 0) := cell_of hkp.2 rfl
  have r3 : w2.cell? ⟨w.heap.size + 1, 3, none⟩ = some (.string ⟨#[]⟩) := cell_of hkp.2 rfl
  have fa : ∀ i, w2.frozen? ⟨w.heap.size + 1 + 1, i, none⟩ = false := fun i => frozen_of hkp.1
  have fr : ∀ i, w2.frozen? ⟨w.heap.size + 1, i, none⟩ = false := fun i => frozen_of hkp.2
  have HS : Hid (MStp pd pA pC S lo hi (doW w ⟨12, a, b, c, s, t⟩) w2) := hs
  have HP2 : Hid (w2.heap[w.heap.size + 1 + 1]? = some (.cells (ansCells 0 0 0 ⟨#[]⟩) 65 (0, 0)) ∧ w2.heap[w.heap.size + 1]? = some (.cells (ansCells 0 0 0 ⟨#[]⟩) 65 (0, 0))) := hkp
  have EA : Hid (ansD S ⟨12, a, b, c, s, t⟩ = ⟨0, 1, 0, ⟨#[]⟩⟩ ∧ stepD S ⟨12, a, b, c, s, t⟩ 0 = S ∧ loD S ⟨12, a, b, c, s, t⟩ lo = lo ∧ hiD S ⟨12, a, b, c, s, t⟩ hi = hi) := by
    show _ ∧ _
    refine ⟨?_, ?_, ?_, ?_⟩
    · simp [ansD]
    · simp [stepD]
    · simp [loD]
    · simp [hiD]
  clear hs hkp hcc
  go_wp2
  refine dom_ret (R := w.heap.size + 1) rfl (ans_row (by omega) HP2.out.1 HP2.out.2 (Chg.px (Chg.refl _ _)) _ _ _ _) ⟨?_, ?_⟩
  · rw [EA.out.1]
    try rfl
  · rw [EA.out.2.1, EA.out.2.2.1, EA.out.2.2.2]
    exact MStp.fin H.out HS.out (ans_chg (Chg.px (Chg.refl _ _)) _ _ _ _)

set_option maxHeartbeats 4000000 in
set_option maxRecDepth 4000 in
theorem dm_none {w : World} {pd pA pC : Nat} {lo hi : Int} {S : WS} (h : MdAt w pd pA pC lo hi S) (o : OpD) (k1 : ¬ o.kind = 1) (k2 : ¬ o.kind = 2) (k3 : ¬ o.kind = 3) (k4 : ¬ o.kind = 4) (k5 : ¬ o.kind = 5) (k6 : ¬ o.kind = 6) (k7 : ¬ o.kind = 7) (k8 : ¬ o.kind = 8) (k9 : ¬ o.kind = 9) (k10 : ¬ o.kind = 10) (k13 : ¬ o.kind = 13) (k11 : ¬ o.kind = 11) (k12 : ¬ o.kind = 12) :
    Calls Try.prog 59 #[pt pd, opV o] w fun x w' => x = .returned (ansV (ansD S o)) ∧ MStp pd pA pC (stepD S o 0) (loD S o lo) (hiD S o hi) w w' := by
  have H : Hid (MdAt w pd pA pC lo hi S) := h
  have EA : Hid (ansD S o = ⟨0, 0, 0, ⟨#[]⟩⟩ ∧ stepD S o 0 = S ∧ loD S o lo = lo ∧ hiD S o hi = hi) := by
    show _ ∧ _
    exact ⟨by simp [ansD, k1, k2, k3, k4, k5, k6, k7, k8, k9, k10, k13, k11, k12], by simp [stepD, k1, k2, k3, k4, k5, k6, k7, k8, k9, k10, k13, k11, k12], by simp [loD, k3, k4], by simp [hiD, k3, k4]⟩
  obtain ⟨kind, a, b, c, s, t⟩ := o
  simp only at k1 k2 k3 k4 k5 k6 k7 k8 k9 k10 k13 k11 k12
  have j1 : (kind == 1) = false := by simpa using k1
  have j2 : (kind == 2) = false := by simpa using k2
  have j3 : (kind == 3) = false := by simpa using k3
  have j4 : (kind == 4) = false := by simpa using k4
  have j5 : (kind == 5) = false := by simpa using k5
  have j6 : (kind == 6) = false := by simpa using k6
  have j7 : (kind == 7) = false := by simpa using k7
  have j8 : (kind == 8) = false := by simpa using k8
  have j9 : (kind == 9) = false := by simpa using k9
  have j10 : (kind == 10) = false := by simpa using k10
  have j13 : (kind == 13) = false := by simpa using k13
  have j11 : (kind == 11) = false := by simpa using k11
  have j12 : (kind == 12) = false := by simpa using k12
  clear h k1 k2 k3 k4 k5 k6 k7 k8 k9 k10 k13 k11 k12
  unfold opV
  go_enter Try.func59, Try.ntmps59
  go_wp2
  refine dom_ret (R := w.heap.size + 1) rfl (doW_r w ⟨kind, a, b, c, s, t⟩) ⟨?_, ?_⟩
  · rw [EA.out.1]
  · rw [EA.out.2.1, EA.out.2.2.1, EA.out.2.2.2]
    exact MStp.same H.out (doW_chg w ⟨kind, a, b, c, s, t⟩ [])

theorem dom_calls {w : World} {pd pA pC : Nat} {lo hi : Int} {S : WS} (h : MdAt w pd pA pC lo hi S) (ho : S.ok) (hcap : capOk S) (o : OpD) :
    Calls Try.prog 59 #[pt pd, opV o] w fun x w' => x = .returned (ansV (ansD S o)) ∧ MStp pd pA pC (stepD S o 0) (loD S o lo) (hiD S o hi) w w' := by
  by_cases k1 : o.kind = 1
  · exact dm_link h ho hcap o k1
  by_cases k2 : o.kind = 2
  · exact dm_cut h ho hcap o k2
  by_cases k3 : o.kind = 3
  · exact dm_reach h ho hcap o k3
  by_cases k4 : o.kind = 4
  · exact dm_twins h ho hcap o k4
  by_cases k5 : o.kind = 5
  · exact dm_note h ho hcap o k5
  by_cases k6 : o.kind = 6
  · exact dm_count h ho hcap o k6
  by_cases k7 : o.kind = 7
  · exact dm_drop h ho hcap o k7
  by_cases k8 : o.kind = 8
  · exact dm_size h ho hcap o k8
  by_cases k9 : o.kind = 9
  · exact dm_nans h ho hcap o k9
  by_cases k10 : o.kind = 10
  · exact dm_wipe h ho hcap o k10
  by_cases k13 : o.kind = 13
  · exact dm_prune h ho hcap o k13
  by_cases k11 : o.kind = 11
  · exact dm_show h ho hcap o k11
  by_cases k12 : o.kind = 12
  · exact dm_check h ho hcap o k12
  exact dm_none h o k1 k2 k3 k4 k5 k6 k7 k8 k9 k10 k13 k11 k12
end Go.Proofs.Qxb6500374a.W
