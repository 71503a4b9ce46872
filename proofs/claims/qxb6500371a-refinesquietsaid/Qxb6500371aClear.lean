import Derived.Test.Qxb6500371aMemW
set_option linter.unusedVariables false
set_option linter.unusedSimpArgs false
namespace Go.Proofs.Qxb6500371a.W
open Go.RowKit Go.Maps

def zeroM : MS := ⟨fun _ => false, fun _ => 0⟩

set_option maxHeartbeats 1000000 in
set_option maxRecDepth 4000 in
theorem clear_calls {w : World} {pm mp : Nat} {m : MS} (hM : MemAt w pm mp m) :
    Calls Try.prog 110 #[.pointer (some ⟨pm, 0, none⟩)] w fun e w' => e = .returned (.tuple #[]) ∧ MemAt w' pm mp zeroM ∧ Chg [pm, mp] w w' := by
  have c4 : w.cell? ⟨pm, 4, none⟩ = some (.map (some mp)) := cell_of hM.1 rfl
  have hne := hM.ne
  have hp : pm < w.heap.size := (Array.getElem?_eq_some_iff.1 hM.1).1
  obtain ⟨D, ho, _⟩ := hM.2
  obtain ⟨w1, hrun, hrg, hgr, hsz⟩ := ho.range law3 Try.underlying46
  have H : Hid (w.heap[pm]? = some (.cells (memCells mp m) 48 (0, 0))) := hM.1
  have HR : Hid (w1.ranges Try.prog 3 (plainElem Try.prog 4) mp w.heap.size 4 D (Maps.has D) (Maps.size D)) := hrg
  have HG : Hid (w.grownBy w1 none) := hgr
  clear hM hrg hgr ho
  go_enter Try.func110, Try.ntmps110
  go_wp2
  go_loopw [2] (fun _ wr => ∃ (D : DataW Unit) (left : Lit → Bool) (cnt : Nat), wr.ranges Try.prog 3 (plainElem Try.prog 4) mp w.heap.size 4 D left cnt ∧ (∀ kl, Maps.has D kl = true → left kl = true) ∧ Chg [mp] w wr) (fun _ wr => wr.rangeLeft mp w.heap.size)
  case atStart => exact ⟨D, _, _, HR.out, fun _ h => h, ⟨HG.out.os, HG.out.tape, HG.out.output, HG.out.size, fun k hk _ => HG.out.block k hk (by simp)⟩⟩
  case round =>
    obtain ⟨D2, left, cnt, hr, hl, hc⟩ := hrel
    have HC : Hid (Chg [mp] w wr) := hc
    have HL : Hid (∀ kl, Maps.has D2 kl = true → left kl = true) := hl
    have h1 : wr.heap[pm]? = some (.cells (memCells mp m) 48 (0, 0)) := hc.keep H.out (by simpa using hne)
    have H1 : Hid (wr.heap[pm]? = some (.cells (memCells mp m) 48 (0, 0))) := h1
    have HR2 : Hid (wr.ranges Try.prog 3 (plainElem Try.prog 4) mp w.heap.size 4 D2 left cnt) := hr
    clear hl hc HR
    rcases hr.next law3 0 with ⟨h0, hlf, hnx⟩ | ⟨key, v, kl, y, w2, cnt2, hkey, hlk, hv, hat, hnx, hrg2, hlt, hgr2, hsz2, hen⟩
    · have d0 : wr.cell? ⟨pm, 0, none⟩ = some (.int .i64 (m.val 0)) := cell_of h1 rfl
      have d1 : wr.cell? ⟨pm, 1, none⟩ = some (.int .i64 (m.val 1)) := cell_of h1 rfl
      have d2 : wr.cell? ⟨pm, 2, none⟩ = some (.int .i64 (m.val 2)) := cell_of h1 rfl
      have d3 : wr.cell? ⟨pm, 3, none⟩ = some (.int .i64 (m.val 3)) := cell_of h1 rfl
      have d5 : wr.cell? ⟨pm, 5, none⟩ = some (.int .i64 m.cnt) := cell_of h1 rfl
      have f0 : wr.frozen? ⟨pm, 0, none⟩ = false := frozen_of h1
      have f1 : wr.frozen? ⟨pm, 1, none⟩ = false := frozen_of h1
      have f2 : wr.frozen? ⟨pm, 2, none⟩ = false := frozen_of h1
      have f3 : wr.frozen? ⟨pm, 3, none⟩ = false := frozen_of h1
      have f5 : wr.frozen? ⟨pm, 5, none⟩ = false := frozen_of h1
      clear hr h1
      go_wp2
      go_end0
      have hno : ∀ kl, Maps.has D2 kl = false := fun kl => by
        cases h : Maps.has D2 kl
        · rfl
        · have := HL.out kl h
          rw [hlf] at this
          cases this
      have hown := HR2.out.owns
      have hs0 : Maps.size D2 = 0 := by
        obtain ⟨es, rfl, _, hk⟩ := hown.entries law3
        cases es with
        | nil => rfl
        | cons p r =>
          have h1 := hno p.1
          rw [has_eq] at h1
          simp [WideAt.sameKey_self (hk p (by simp))] at h1
      have hC2 : Chg [pm] wr (((((wr.setCell ⟨pm, 0, none⟩ (.int .i64 0)).setCell ⟨pm, 1, none⟩ (.int .i64 0)).setCell ⟨pm, 2, none⟩ (.int .i64 0)).setCell ⟨pm, 3, none⟩ (.int .i64 0)).setCell ⟨pm, 5, none⟩ (.int .i64 0)) :=
        (((((Chg.refl _ _).setCell (Or.inl (by simp)) _).setCell (Or.inl (by simp)) _).setCell (Or.inl (by simp)) _).setCell (Or.inl (by simp)) _).setCell (Or.inl (by simp)) _
      refine ⟨rfl, ⟨?_, ?_⟩, (HC.out.mono (by simp)).trans (hC2.mono (by simp))⟩
      · have g0 := heap_setCell_same wr pm 0 _ _ (.int .i64 0) H1.out
        have g1 := heap_setCell_same _ pm 1 _ _ (.int .i64 0) g0
        have g2 := heap_setCell_same _ pm 2 _ _ (.int .i64 0) g1
        have g3 := heap_setCell_same _ pm 3 _ _ (.int .i64 0) g2
        have g5 := heap_setCell_same _ pm 5 _ _ (.int .i64 0) g3
        rw [g5]
        simp [memCells, zeroM, MS.cnt, b1]
      · refine HasAt.chg (bs := [pm]) (w := wr) ⟨D2, hown, ?_, ?_, ?_⟩ hC2 (by simpa using hne.symm)
        · intro x; rw [atKey_of_not_has (hno _)]; simp [MS.hasI, zeroM]
        · intro x; rw [hno]; simp [MS.hasI, zeroM]
        · rw [hs0]; simp [MS.cnt, zeroM, b1]
    · have d4 : w2.cell? ⟨pm, 4, none⟩ = some (.map (some mp)) := by
        refine cell_of (cs := memCells mp m) (t := 48) ?_ rfl
        rw [hgr2.block pm (Array.getElem?_eq_some_iff.1 h1).1 (by intro e; cases e; omega), h1]
      obtain ⟨x, rfl, rfl, hwx⟩ := Maps.keyOf_int_inv Try.underlying3 hkey
      obtain ⟨w3, cnt3, hdel, hrg3, hle3, htn⟩ := hrg2.drop law3 Try.underlying46 hkey 0
      have HR3 : Hid (w3.ranges Try.prog 3 (plainElem Try.prog 4) mp w.heap.size 4 (D2.del (.int .i64 x)) (fun z => (left z && !z.sameKey (.int .i64 x)) && !z.sameKey (.int .i64 x)) cnt3) := hrg3
      have HT : Hid (w2.mapTurned w3 mp) := htn
      have HG2 : Hid (wr.grownBy w2 (some w.heap.size)) := hgr2
      clear hr h1 hrg2 hrg3 htn hgr2 hat hv
      go_wp2
      have hr3 := HR3.out
      refine ⟨⟨_, _, _, hr3, ?_, ?_⟩, ?_⟩
      · intro kl hk
        by_cases he : kl = .int .i64 x
        · subst he
          rw [has_del_same] at hk
          cases hk
        · rw [has_del_other he] at hk
          simp only [HL.out kl hk, sameKey_ne he, Bool.not_false, Bool.and_self]
      · have ht := Chg.turned HT.out
        exact Chg.trans ⟨HG2.out.os.trans HC.out.os, HG2.out.tape.trans HC.out.tape, HG2.out.output.trans HC.out.output, Nat.le_trans HC.out.size HG2.out.size,
          fun k hk hn => (HG2.out.block k (Nat.lt_of_lt_of_le hk HC.out.size) (by intro e; cases e; omega)).trans (HC.out.block k hk hn)⟩ ht
      · rw [hr3.left_eq, HR2.out.left_eq]
        omega
end Go.Proofs.Qxb6500371a.W
