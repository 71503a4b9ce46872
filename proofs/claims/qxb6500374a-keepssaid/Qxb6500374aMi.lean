import Derived.Test.Qxb6500374aMh
set_option linter.unusedVariables false
set_option linter.unusedSimpArgs false
namespace Go.Proofs.Qxb6500374a.W
open Go.RowKit Go.Maps

def MNewP (w : World) (x : Ending) (w' : World) : Prop := ∃ pd pA pC, x = .returned (pt pd) ∧ MdAt w' pd pA pC 0 0 sNew ∧ Chg [] w w' ∧ ∀ x ∈ [pd, pA, pC], w.heap.size ≤ x

theorem mnew_fin {w w0 w' : World} (hc : Chg [] w w0) {pA pC pd : Nat} (hA : BGrid w0 pA 64 (fun _ => false)) (hC : IGrid w0 pC 25 (fun _ => 0)) (hne : pA ≠ pC) (h1 : w.heap.size ≤ pA) (h2 : w.heap.size ≤ pC)
    (hw : w' = w0.alloc (.cells #[.slice (some ⟨pA, 0, none⟩) 64 64, .slice (some ⟨pC, 0, none⟩) 25 25, .int .i64 0, .int .i64 0, .int .i64 0] 82)) (hp : pd = w0.heap.size) : MNewP w (.returned (pt pd)) w' := by
  subst hw hp
  have ha : Chg [] w0 (w0.alloc (.cells #[.slice (some ⟨pA, 0, none⟩) 64 64, .slice (some ⟨pC, 0, none⟩) 25 25, .int .i64 0, .int .i64 0, .int .i64 0] 82)) := (Chg.refl _ _).alloc _
  have l1 := hA.lt
  have l2 := hC.lt
  refine ⟨w0.heap.size, pA, pC, rfl, ⟨heap_alloc_new _ _, (hA.chg ha (by simp)).congr (fun i _ => by simp [eF, sNew]), (hC.chg ha (by simp)).congr (fun i _ => by simp [ct, sNew]), by omega, by omega, hne⟩, hc.trans ha, ?_⟩
  intro x hx
  have := hc.size
  simp at hx
  rcases hx with rfl | rfl | rfl <;> omega

set_option maxHeartbeats 1000000 in
set_option maxRecDepth 4000 in
theorem mnew_calls (w : World) : Calls Try.prog 58 #[] w (MNewP w) := by
  have hB := mkB64
  have hI := mkI25
  go_enter Try.func58, Try.ntmps58
  go_wp2_with fail
  go_region
  all_goals
    go_wp2
    go_ret
  · exact mnew_fin (w0 := (w.drew.alloc (.cells (Array.replicate 64 (.bool false)) 4)).alloc (.cells (Array.replicate 25 (.int .i64 0)) 3)) (((Chg.refl _ _).drew.alloc _).alloc _) (pA := w.heap.size) (pC := w.heap.size + 1)
      ((bgrid_new w.drew 64).chg (bs := []) ((Chg.refl _ _).alloc _) (by simp)) (by have := igrid_new (w.drew.alloc (.cells (Array.replicate 64 (.bool false)) 4)) 25; simpa using this) (by omega) (by omega) (by omega) rfl (by simp)
  · exact mnew_fin (w0 := (w.drew.alloc (.cells (Array.replicate 25 (.int .i64 0)) 3)).alloc (.cells (Array.replicate 64 (.bool false)) 4)) (((Chg.refl _ _).drew.alloc _).alloc _) (pA := w.heap.size + 1) (pC := w.heap.size)
      (by have := bgrid_new (w.drew.alloc (.cells (Array.replicate 25 (.int .i64 0)) 3)) 64; simpa using this) ((igrid_new w.drew 25).chg (bs := []) ((Chg.refl _ _).alloc _) (by simp)) (by omega) (by omega) (by omega) rfl (by simp)

theorem MdAt.setA {w : World} {pd pA pC : Nat} {lo hi : Int} {S : WS} (h : MdAt w pd pA pC lo hi S) {a b : Nat} (ha : a < 8) (hb : b < 8) {l : List Nat} {v : Bool} (hl : ∀ c, c < 8 → l.contains c = if c = b then v else (S.A a).contains c) :
    MStp pd pA pC { S with A := updA S.A a l } lo hi w (w.setCell ⟨pA, a * 8 + b, none⟩ (.bool v)) := by
  have hc : Chg [pA] w (w.setCell ⟨pA, a * 8 + b, none⟩ (.bool v)) := (Chg.refl _ _).setCell (Or.inl (by simp)) _
  refine ⟨⟨hc.keep h.row (by simp; exact h.ap1), (h.adj.set (by omega) v).congr (fun i _ => eF_upd hb hl i), h.cnt.chg hc (by simp; exact h.ap3.symm), h.ap1, h.ap2, h.ap3⟩, hc.mono (by simp)⟩
theorem MdAt.setC {w : World} {pd pA pC : Nat} {lo hi : Int} {S : WS} (h : MdAt w pd pA pC lo hi S) {a b : Nat} (hab : a ≤ b) (hb : b ≤ 4) (h0 : 0 < b) (x : Int) :
    MStp pd pA pC { S with cn := upd S.cn (rj a b) x } lo hi w (w.setCell ⟨pC, atI a b, none⟩ (.int .i64 x)) := by
  have hc : Chg [pC] w (w.setCell ⟨pC, atI a b, none⟩ (.int .i64 x)) := (Chg.refl _ _).setCell (Or.inl (by simp)) _
  obtain ⟨⟨a1, _⟩, _⟩ := at_all b (by omega) a (by omega) h0 hab
  refine ⟨⟨hc.keep h.row (by simp; exact h.ap2), h.adj.chg hc (by simp; exact h.ap3), (h.cnt.set a1 x).congr (fun i hi => ct_upd _ hab hb h0 x i hi), h.ap1, h.ap2, h.ap3⟩, hc.mono (by simp)⟩
theorem MdAt.setN {w : World} {pd pA pC : Nat} {lo hi : Int} {S : WS} (h : MdAt w pd pA pC lo hi S) (n : Nat) {x : Int} (hx : x = n) :
    MStp pd pA pC { S with nn := n } lo hi w (w.setCell ⟨pd, 2, none⟩ (.int .i64 x)) := by
  subst hx
  have hc : Chg [pd] w (w.setCell ⟨pd, 2, none⟩ (.int .i64 n)) := (Chg.refl _ _).setCell (Or.inl (by simp)) _
  refine ⟨⟨?_, h.adj.chg hc (by simp; exact h.ap1.symm), h.cnt.chg hc (by simp; exact h.ap2.symm), h.ap1, h.ap2, h.ap3⟩, hc.mono (by simp)⟩
  rw [heap_setCell_same _ pd 2 _ _ _ h.row]
  simp

def oc (l : List Nat) (i : Nat) : Nat := ((List.range i).filter fun c => l.contains c).length
theorem oc_succ (l : List Nat) (i : Nat) : oc l (i + 1) = oc l i + if l.contains i = true then 1 else 0 := by
  unfold oc
  rw [filter_range_succ, List.length_append]
  split <;> simp
theorem oc_le (l : List Nat) (i : Nat) : oc l i ≤ i := by
  have := List.length_filter_le (fun c => l.contains c) (List.range i)
  simpa [oc] using this
theorem oc_eight {A : Nat → List Nat} (h : AOk A) (a : Nat) : oc (A a) 8 = (A a).length := sl_length h a

set_option maxHeartbeats 4000000 in
set_option maxRecDepth 4000 in
theorem mlink_calls {w : World} {pd pA pC : Nat} {lo hi : Int} {S : WS} (h : MdAt w pd pA pC lo hi S) (ho : S.ok) (a b : Int) :
    Calls Try.prog 64 #[pt pd, .int .i64 a, .int .i64 b] w fun x w' => x = .returned (.int .i64 (linkS S a b).1) ∧ MStp pd pA pC (linkS S a b).2 lo hi w w' := by
  have H : Hid (MdAt w pd pA pC lo hi S) := h
  have HO : Hid S.ok := ho
  have c0 : w.cell? ⟨pd, 0, none⟩ = some (.slice (some ⟨pA, 0, none⟩) 64 64) := cell_of h.row rfl
  cases ha : isN a with
  | false =>
    have e : linkS S a b = (1, S) := by rw [linkS, if_pos (Or.inl ha)]
    rw [e]
    have HN : Hid (isN a = false) := ha
    clear h ho e ha
    go_enter Try.func64, Try.ntmps64
    go_wp2_with fail
    refine (mnode_calls a w).mono ?_
    rintro x w2 ⟨rfl, hw2⟩
    obtain rfl : w = w2 := hw2.symm
    clear hw2
    rw [HN.out]
    go_wp2
    go_ret
    exact ⟨rfl, MStp.same H.out (Chg.refl _ _)⟩
  | true =>
    have HN : Hid (isN a = true) := ha
    cases hb : isN b with
    | false =>
      have e : linkS S a b = (1, S) := by rw [linkS, if_pos (Or.inr hb)]
      rw [e]
      have HNb : Hid (isN b = false) := hb
      clear h ho e ha hb
      go_enter Try.func64, Try.ntmps64
      go_wp2_with fail
      refine (mnode_calls a w).mono ?_
      rintro x w2 ⟨rfl, hw2⟩
      obtain rfl : w = w2 := hw2.symm
      clear hw2
      rw [HN.out]
      go_wp2_with fail
      refine (mnode_calls b w).mono ?_
      rintro x w2 ⟨rfl, hw2⟩
      obtain rfl : w = w2 := hw2.symm
      clear hw2
      rw [HNb.out]
      go_wp2
      go_ret
      exact ⟨rfl, MStp.same H.out (Chg.refl _ _)⟩
    | true =>
      have HNb : Hid (isN b = true) := hb
      obtain ⟨k, hk, rfl⟩ := isN_iff.1 ha
      obtain ⟨m, hm, rfl⟩ := isN_iff.1 hb
      have hun : linkS S k m = if m ∈ S.A k then (2, S) else if 3 ≤ (S.A k).length then (3, S) else (0, { S with A := updA S.A k (S.A k ++ [m]) }) := by
        rw [linkS, if_neg (by simp [ha, hb])]
        simp
      have ce := h.adj.cell (i := k * 8 + m) (by omega)
      rw [eF_at _ hm] at ce
      clear ha hb
      by_cases hmem : m ∈ S.A k
      · rw [hun, if_pos hmem]
        rw [show (S.A k).contains m = true by simpa using hmem] at ce
        clear h ho hun hmem
        go_enter Try.func64, Try.ntmps64
        go_wp2_with fail
        refine (mnode_calls k w).mono ?_
        rintro x w2 ⟨rfl, hw2⟩
        obtain rfl : w = w2 := hw2.symm
        clear hw2
        rw [HN.out]
        go_wp2_with fail
        refine (mnode_calls m w).mono ?_
        rintro x w2 ⟨rfl, hw2⟩
        obtain rfl : w = w2 := hw2.symm
        clear hw2
        rw [HNb.out]
        go_wp2
        go_ret
        exact ⟨rfl, MStp.same H.out (Chg.refl _ _)⟩
      · have HUN : Hid (linkS S k m = if 3 ≤ (S.A k).length then (3, S) else (0, { S with A := updA S.A k (S.A k ++ [m]) })) := by show _ = _; rw [hun, if_neg hmem]
        rw [show (S.A k).contains m = false by simpa using hmem] at ce
        have HMM : Hid (m ∉ S.A k) := hmem
        have HE8 : Hid (oc (S.A k) 8 = (S.A k).length) := oc_eight ho.aok k
        have HFZ : Hid (∀ i, w.frozen? ⟨pA, i, none⟩ = false) := h.adj.froz
        have HCE : Hid (∀ i, i < 8 → w.cell? ⟨pA, k * 8 + i, none⟩ = some (.bool ((S.A k).contains i))) := fun i hi => by have := H.out.adj.cell (i := k * 8 + i) (by omega); rw [eF_at _ hi] at this; exact this
        clear h ho hun hmem
        go_enter Try.func64, Try.ntmps64
        go_wp2_with fail
        refine (mnode_calls k w).mono ?_
        rintro x w2 ⟨rfl, hw2⟩
        obtain rfl : w = w2 := hw2.symm
        clear hw2
        rw [HN.out]
        go_wp2_with fail
        refine (mnode_calls m w).mono ?_
        rintro x w2 ⟨rfl, hw2⟩
        obtain rfl : w = w2 := hw2.symm
        clear hw2
        rw [HNb.out]
        go_wp2_with fail
        go_loopw [7, 8] (fun v7 v8 wr => ∃ i : Nat, i ≤ 8 ∧ v8 = .int .i64 i ∧ v7 = .int .i64 (oc (S.A k) i : Nat) ∧ wr = w) (fun _ v8 _ => (8 - intOf v8).toNat)
        case atStart => exact ⟨0, by omega, rfl, rfl, rfl⟩
        case round =>
          obtain ⟨i, hi8, rfl, rfl, rfl⟩ := hrel
          have hol := oc_le (S.A k) i
          by_cases h8 : i < 8
          · have hci := HCE.out i h8
            have HS : Hid (oc (S.A k) (i + 1) = oc (S.A k) i + if (S.A k).contains i = true then 1 else 0) := oc_succ _ _
            generalize oc (S.A k) i = q at *
            cases hcv : (S.A k).contains i with
            | true =>
              rw [hcv] at hci
              have HS2 : Hid (oc (S.A k) (i + 1) = q + 1) := by have := HS.out; rw [hcv, if_pos rfl] at this; exact this
              clear HS
              go_wp2
              exact ⟨⟨i + 1, by omega, by simp, by rw [HS2.out]; simp, trivial⟩, by simp [intOf]; omega⟩
            | false =>
              rw [hcv] at hci
              have HS2 : Hid (oc (S.A k) (i + 1) = q) := by show _ = _; have := HS.out; rw [hcv] at this; simpa using this
              clear HS
              go_wp2
              exact ⟨⟨i + 1, by omega, by simp, by rw [HS2.out], trivial⟩, by simp [intOf]; omega⟩
          · obtain rfl : i = 8 := by omega
            by_cases hful : 3 ≤ (S.A k).length
            · have HU2 : Hid (linkS S k m = (3, S)) := by show _ = _; rw [HUN.out, if_pos hful]
              have d : 3 ≤ oc (S.A k) 8 := by rw [HE8.out]; exact hful
              clear hful
              generalize oc (S.A k) 8 = q at *
              go_wp2
              go_ret
              rw [HU2.out]
              exact ⟨rfl, MStp.same H.out (Chg.refl _ _)⟩
            · have HU2 : Hid (linkS S k m = (0, { S with A := updA S.A k (S.A k ++ [m]) })) := by show _ = _; rw [HUN.out, if_neg hful]
              have d : oc (S.A k) 8 < 3 := by rw [HE8.out]; omega
              have hfz := HFZ.out (k * 8 + m)
              generalize oc (S.A k) 8 = q at *
              go_wp2
              go_ret
              rw [HU2.out]
              refine ⟨rfl, H.out.setA hk hm ?_⟩
              intro c hc
              by_cases e : c = m
              · subst e; simp
              · rw [if_neg e]
                simp [e]
end Go.Proofs.Qxb6500374a.W
