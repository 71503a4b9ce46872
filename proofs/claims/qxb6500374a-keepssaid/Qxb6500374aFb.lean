import Derived.Test.Qxb6500374aFa
set_option linter.unusedVariables false
set_option linter.unusedSimpArgs false
namespace Go.Proofs.Qxb6500374a.W
open Go.RowKit Go.Maps

/-- What far leaves. -/
def FarP (pd pA pC : Nat) (S : WS) (s : Nat) (w : World) (x : Ending) (w' : World) : Prop :=
  ∃ pD, w.heap.size ≤ pD ∧ x = .returned (.slice (some ⟨pD, 0, none⟩) 8 8) ∧ IGrid w' pD 8 (lev S.A s 8) ∧ MdAt w' pd pA pC (loF S.A s) (hiF S.A s) S ∧ Chg [pd] w w'

theorem MdAt.span {w : World} {pd pA pC : Nat} {lo hi : Int} {S : WS} (h : MdAt w pd pA pC lo hi S) (l u : Int) :
    MdAt ((w.setCell ⟨pd, 3, none⟩ (.int .i64 l)).setCell ⟨pd, 4, none⟩ (.int .i64 u)) pd pA pC l u S ∧ Chg [pd] w ((w.setCell ⟨pd, 3, none⟩ (.int .i64 l)).setCell ⟨pd, 4, none⟩ (.int .i64 u)) := by
  have hc : Chg [pd] w ((w.setCell ⟨pd, 3, none⟩ (.int .i64 l)).setCell ⟨pd, 4, none⟩ (.int .i64 u)) := (Chg.px (Chg.px (Chg.refl _ _)))
  refine ⟨⟨?_, h.adj.chg hc (by simp; exact h.ap1.symm), h.cnt.chg hc (by simp; exact h.ap2.symm), h.ap1, h.ap2, h.ap3⟩, hc⟩
  have g1 := heap_setCell_same _ pd 3 _ _ (.int .i64 l) h.row
  have g2 := heap_setCell_same _ pd 4 _ _ (.int .i64 u) g1
  rw [g2]
  simp

set_option maxHeartbeats 8000000 in
set_option maxRecDepth 4000 in
theorem far_calls {w : World} {pd pA pC : Nat} {lo hi : Int} {S : WS} (h : MdAt w pd pA pC lo hi S) (ho : S.ok) {s : Nat} (hs : s < 8) :
    Calls Try.prog 77 #[pt pd, .int .i64 s] w (FarP pd pA pC S s w) := by
  have H : Hid (MdAt w pd pA pC lo hi S) := h
  have HO : Hid S.ok := ho
  have HS : Hid (s < 8) := hs
  have hmk := mkI8 w
  have HLT : Hid (∀ x ∈ [pd, pA, pC], x < w.heap.size) := h.lt
  clear h ho
  go_enter Try.func77, Try.ntmps77
  go_wp2_with fail
  go_loopw [6] (fun v6 wr => ∃ i : Nat, i ≤ 8 ∧ v6 = .int .i64 i ∧ IGrid wr w.heap.size 8 (fun k => if k < i then -1 else 0) ∧ Chg [] w wr) (fun v6 _ => (8 - intOf v6).toNat)
  case atStart => exact ⟨0, by omega, rfl, (igrid_new w 8).congr (by simp), (Chg.refl _ _).alloc _⟩
  case round =>
    obtain ⟨i, hi8, rfl, hg, hc⟩ := hrel
    rename World => wI
    by_cases h8 : i < 8
    · have ce := hg.cell h8
      have hfz := hg.froz i
      have HN : Hid (IGrid (wI.setCell ⟨w.heap.size, i, none⟩ (.int .i64 (-1))) w.heap.size 8 (fun k => if k < i + 1 then -1 else 0) ∧ Chg [] w (wI.setCell ⟨w.heap.size, i, none⟩ (.int .i64 (-1)))) := by
        refine ⟨(hg.set h8 (-1)).congr (fun k hk => ?_), hc.setCell (Or.inr (Nat.le_refl _)) _⟩
        unfold updf
        by_cases e : k = i
        · subst e; simp
        · rw [if_neg e]
          show (if k < i then (-1 : Int) else 0) = _
          by_cases hki : k < i
          · rw [if_pos hki, if_pos (by omega)]
          · rw [if_neg hki, if_neg (by omega)]
      clear hg hc
      simp only [Nat.lt_irrefl, if_false] at ce
      go_wp2
      exact ⟨⟨i + 1, by omega, by simp, HN.out.1, HN.out.2⟩, by simp [intOf]; omega⟩
    · obtain rfl : i = 8 := by omega
      have ce := hg.cell hs
      simp only [hs, if_true] at ce
      have hfz := hg.froz s
      have HN : Hid (IGrid (wI.setCell ⟨w.heap.size, s, none⟩ (.int .i64 0)) w.heap.size 8 (lev S.A s 0) ∧ Chg [] w (wI.setCell ⟨w.heap.size, s, none⟩ (.int .i64 0))) := by
        refine ⟨(hg.set hs 0).congr (fun k hk => ?_), hc.setCell (Or.inr (Nat.le_refl _)) _⟩
        unfold updf lev
        by_cases e : k = s
        · simp [e]
        · simp [e, hk]
      clear hg hc
      go_wp2_with fail
      clear ce hfz
      go_loopw [7, 8, 9, 10] (fun v7 v8 _ _ wr => ∃ r : Nat, r ≤ 8 ∧ v8 = .int .i64 r ∧ v7 = .int .i64 (dp S.A s r : Nat) ∧ IGrid wr w.heap.size 8 (lev S.A s r) ∧ Chg [] w wr) (fun _ v8 _ _ _ => (8 - intOf v8).toNat)
      case atStart => exact ⟨0, by omega, rfl, rfl, HN.out.1, HN.out.2⟩
      case round =>
        clear HN
        obtain ⟨r, hr8, rfl, rfl, hg, hc⟩ := hrel
        rename World => wR
        by_cases h8r : r < 8
        · have d0 : decide ((r : Int) < 8) = true := by simp; omega
          have HL : Hid (∀ k, -1 ≤ lev S.A s r k) := lev_ge S.A s r
          have HLE : Hid (∀ k, lev S.A s r k ≤ r) := lev_le S.A s r
          have HNX : Hid (lev S.A s (r + 1) = mid S.A (lev S.A s r) r 8 0 ∧ dp S.A s (r + 1) = dmid S.A (lev S.A s r) r (dp S.A s r) 8 0) := ⟨rfl, rfl⟩
          have HG : Hid (IGrid wR w.heap.size 8 (lev S.A s r) ∧ Chg [] w wR) := ⟨hg, hc⟩
          have hdp := dp_le S.A s r
          clear hg hc
          generalize lev S.A s r = l at *
          generalize dp S.A s r = d at *
          go_wp2_with fail
          go_loopw [7, 9, 10] (fun v7 v9 _ wr => ∃ a : Nat, a ≤ 8 ∧ v9 = .int .i64 a ∧ v7 = .int .i64 (dmid S.A l r d a 0 : Nat) ∧ IGrid wr w.heap.size 8 (mid S.A l r a 0) ∧ Chg [] w wr) (fun _ v9 _ _ => (8 - intOf v9).toNat)
          case atStart => exact ⟨0, by omega, rfl, by rw [dmid_zero], HG.out.1.congr (fun k _ => (mid_zero (HL.out k)).symm), HG.out.2⟩
          case round =>
            clear HG
            obtain ⟨a, ha8, rfl, rfl, hg, hc⟩ := hrel
            rename World => wA
            by_cases h8a : a < 8
            · have d1 : decide ((a : Int) < 8) = true := by simp; omega
              have HG : Hid (IGrid wA w.heap.size 8 (mid S.A l r a 0) ∧ Chg [] w wA) := ⟨hg, hc⟩
              clear hg hc
              go_wp2_with fail
              go_loopw [7, 10] (fun v7 v10 wr => ∃ b : Nat, b ≤ 8 ∧ v10 = .int .i64 b ∧ v7 = .int .i64 (dmid S.A l r d a b : Nat) ∧ IGrid wr w.heap.size 8 (mid S.A l r a b) ∧ Chg [] w wr) (fun _ v10 _ => (8 - intOf v10).toNat)
              case atStart => exact ⟨0, by omega, rfl, rfl, HG.out.1, HG.out.2⟩
              case round =>
                clear HG
                obtain ⟨b, hb8, rfl, rfl, hg, hc⟩ := hrel
                rename World => wB
                by_cases h8b : b < 8
                · have hM := H.out.chg hc (by simp)
                  have c0 : wB.cell? ⟨pd, 0, none⟩ = some (.slice (some ⟨pA, 0, none⟩) 64 64) := cell_of hM.row rfl
                  have cadj := hM.adj.cell (i := a * 8 + b) (by omega)
                  rw [eF_at _ h8b] at cadj
                  have ca := hg.cell h8a
                  have cb := hg.cell h8b
                  have hfz := hg.froz b
                  have hiff := mid_at (A := S.A) (r := r) (b := b) (HL.out a)
                  have HC : Hid (Chg [] w wB) := hc
                  have HG : Hid (IGrid wB w.heap.size 8 (mid S.A l r a b)) := hg
                  clear hM
                  by_cases t1 : l a = (r : Int)
                  · have q1 : mid S.A l r a b a = (r : Int) := hiff.2 t1
                    by_cases t2 : (S.A a).contains b = true
                    · by_cases t3 : mid S.A l r a b b < 0
                      · have HN : Hid (IGrid (wB.setCell ⟨w.heap.size, b, none⟩ (.int .i64 ((r : Int) + 1))) w.heap.size 8 (mid S.A l r a (b + 1)) ∧ Chg [] w (wB.setCell ⟨w.heap.size, b, none⟩ (.int .i64 ((r : Int) + 1))) ∧ dmid S.A l r d a (b + 1) = r + 1) := by
                          obtain ⟨e1, e2⟩ := mid_set h8b t1 t2 t3 d
                          exact ⟨(hg.set h8b _).congr (fun k _ => e1 k), hc.setCell (Or.inr (Nat.le_refl _)) _, e2⟩
                        rw [q1] at ca
                        rw [t2] at cadj
                        have dd : decide (mid S.A l r a b b < 0) = true := by simpa using t3
                        clear hiff hg hc q1 t1 t2
                        generalize mid S.A l r a b b = mb at *
                        generalize dmid S.A l r d a b = dm at *
                        go_wp2
                        exact ⟨⟨b + 1, by omega, by simp, by rw [HN.out.2.2]; simp, HN.out.1, HN.out.2.1⟩, by simp [intOf]; omega⟩
                      · have HN : Hid (IGrid wB w.heap.size 8 (mid S.A l r a (b + 1)) ∧ dmid S.A l r d a (b + 1) = dmid S.A l r d a b) := by
                          obtain ⟨e1, e2⟩ := mid_stay (A := S.A) (r := r) (a := a) (HL.out b) (fun hx => t3 hx.2.2) d
                          exact ⟨hg.congr (fun k _ => e1 k), e2⟩
                        rw [q1] at ca
                        rw [t2] at cadj
                        have dd : decide (mid S.A l r a b b < 0) = false := by simpa using t3
                        clear hiff hg hc q1 t1 t2
                        generalize mid S.A l r a b b = mb at *
                        generalize hdm : dmid S.A l r d a b = dm at *
                        clear hdm
                        go_wp2
                        exact ⟨⟨b + 1, by omega, by simp, by rw [HN.out.2], HN.out.1, HC.out⟩, by simp [intOf]; omega⟩
                    · have HN : Hid (IGrid wB w.heap.size 8 (mid S.A l r a (b + 1)) ∧ dmid S.A l r d a (b + 1) = dmid S.A l r d a b) := by
                        obtain ⟨e1, e2⟩ := mid_stay (A := S.A) (r := r) (a := a) (HL.out b) (fun hx => t2 hx.2.1) d
                        exact ⟨hg.congr (fun k _ => e1 k), e2⟩
                      rw [q1] at ca
                      rw [show (S.A a).contains b = false by simpa using t2] at cadj
                      clear hiff hg hc q1 t1 t2
                      generalize hdm : dmid S.A l r d a b = dm at *
                      clear hdm
                      go_wp2
                      exact ⟨⟨b + 1, by omega, by simp, by rw [HN.out.2], HN.out.1, HC.out⟩, by simp [intOf]; omega⟩
                  · have HN : Hid (IGrid wB w.heap.size 8 (mid S.A l r a (b + 1)) ∧ dmid S.A l r d a (b + 1) = dmid S.A l r d a b) := by
                      obtain ⟨e1, e2⟩ := mid_stay (A := S.A) (r := r) (a := a) (HL.out b) (fun hx => t1 hx.1) d
                      exact ⟨hg.congr (fun k _ => e1 k), e2⟩
                    have dd : (mid S.A l r a b a == (r : Int)) = false := by
                      rw [beq_eq_false_iff_ne]
                      exact fun hx => t1 (hiff.1 hx)
                    clear hiff hg hc t1
                    generalize mid S.A l r a b a = ma at *
                    generalize hdm : dmid S.A l r d a b = dm at *
                    clear hdm
                    go_wp2
                    exact ⟨⟨b + 1, by omega, by simp, by rw [HN.out.2], HN.out.1, HC.out⟩, by simp [intOf]; omega⟩
                · obtain rfl : b = 8 := by omega
                  have HN : Hid (IGrid wB w.heap.size 8 (mid S.A l r (a + 1) 0) ∧ dmid S.A l r d (a + 1) 0 = dmid S.A l r d a 8) := ⟨hg.congr (fun k hk => mid_next S.A l r a k hk), (dmid_next _ _ _ _ _).symm⟩
                  have HC : Hid (Chg [] w wB) := hc
                  clear hg hc
                  generalize hdm : dmid S.A l r d a 8 = dm at *
                  clear hdm
                  go_wp2
                  exact ⟨⟨a + 1, by omega, by simp, by rw [HN.out.2], HN.out.1, HC.out⟩, by simp [intOf]; omega⟩
            · obtain rfl : a = 8 := by omega
              have HN : Hid (IGrid wA w.heap.size 8 (lev S.A s (r + 1)) ∧ dp S.A s (r + 1) = dmid S.A l r d 8 0 ∧ Chg [] w wA) := ⟨by rw [HNX.out.1]; exact hg, HNX.out.2, hc⟩
              clear hg hc HNX
              generalize dmid S.A l r d 8 0 = dm at *
              go_wp2
              exact ⟨⟨r + 1, by omega, by simp, by rw [HN.out.2.1], HN.out.1, HN.out.2.2⟩, by simp [intOf]; omega⟩
        · obtain rfl : r = 8 := by omega
          have hM := H.out.chg hc (by simp)
          have c3 : wR.cell? ⟨pd, 3, none⟩ = some (.int .i64 lo) := cell_of hM.row rfl
          have c4 : wR.cell? ⟨pd, 4, none⟩ = some (.int .i64 hi) := cell_of hM.row rfl
          have f3 : ∀ i, wR.frozen? ⟨pd, i, none⟩ = false := fun i => frozen_of hM.row
          have hdp := dp_le S.A s 8
          have HEQ : Hid (loF S.A s = (if 0 < dp S.A s 8 then 2 else 1) ∧ hiF S.A s = (if 0 < dp S.A s 8 then (dp S.A s 8 : Int) + 1 else 1)) := ⟨rfl, rfl⟩
          have HFIN : Hid (∀ l u w', l = loF S.A s → u = hiF S.A s → w' = (wR.setCell ⟨pd, 3, none⟩ (.int .i64 l)).setCell ⟨pd, 4, none⟩ (.int .i64 u) → FarP pd pA pC S s w (.returned (.slice (some ⟨w.heap.size, 0, none⟩) 8 8)) w') := by
            rintro l u w' rfl rfl rfl
            obtain ⟨h1, h2⟩ := hM.span (loF S.A s) (hiF S.A s)
            have hpd := HLT.out pd (by simp)
            exact ⟨w.heap.size, Nat.le_refl _, rfl, hg.chg h2 (by simp; omega), h1, hc.any.trans h2⟩
          have HFIN2 : Hid (∀ l u w', l = loF S.A s → u = hiF S.A s → w' = ((((wR.setCell ⟨pd, 3, none⟩ (.int .i64 1)).setCell ⟨pd, 4, none⟩ (.int .i64 1)).setCell ⟨pd, 3, none⟩ (.int .i64 l)).setCell ⟨pd, 4, none⟩ (.int .i64 u)) → FarP pd pA pC S s w (.returned (.slice (some ⟨w.heap.size, 0, none⟩) 8 8)) w') := by
            rintro l u w' rfl rfl rfl
            obtain ⟨h1, h2⟩ := hM.span 1 1
            obtain ⟨h3, h4⟩ := h1.span (loF S.A s) (hiF S.A s)
            have hpd := HLT.out pd (by simp)
            exact ⟨w.heap.size, Nat.le_refl _, rfl, hg.chg (h2.trans h4) (by simp; omega), h3, hc.any.trans (h2.trans h4)⟩
          clear hM hg hc
          generalize dp S.A s 8 = d at *
          by_cases hd : 0 < d
          · have dd : decide (0 < d) = true := by simpa using hd
            go_wp2
            go_ret
            exact HFIN2.out 2 ((d : Int) + 1) _ (by rw [HEQ.out.1, if_pos hd]) (by rw [HEQ.out.2, if_pos hd]) rfl
          · have dd : decide (0 < d) = false := by simpa using hd
            go_wp2
            go_ret
            exact HFIN.out 1 1 _ (by rw [HEQ.out.1, if_neg hd]) (by rw [HEQ.out.2, if_neg hd]) rfl
end Go.Proofs.Qxb6500374a.W
