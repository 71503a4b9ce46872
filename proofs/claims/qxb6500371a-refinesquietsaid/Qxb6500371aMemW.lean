import Derived.Test.Qxb6500371aMem
set_option linter.unusedVariables false
set_option linter.unusedSimpArgs false
namespace Go.Proofs.Qxb6500371a.W
open Go.RowKit Go.Maps

/-- What 'row' answers: key, value, error. -/
def rowR (m : MS) (k : Int) : Int × Int × Int := if inB k then (if m.has k.toNat then (k, m.val k.toNat, 0) else (0, 0, 2)) else (0, 0, 1)

theorem rowR_bad {m : MS} {k : Int} (h : k < 0 ∨ 4 ≤ k) : rowR m k = (0, 0, 1) := by
  unfold rowR
  rw [if_neg (by simp [inB]; omega)]
theorem rowR_in {m : MS} {i : Nat} (h : i < 4) : rowR m (i : Int) = if m.has i then ((i : Int), m.val i, 0) else (0, 0, 2) := by
  unfold rowR
  rw [if_pos (by simp [inB]; omega)]
  simp
theorem hasI_in {m : MS} {i : Nat} (h : i < 4) : m.hasI (i : Int) = m.has i := by
  simp [MS.hasI, inB]
  omega

theorem results_ct {P : Program} {fn : Func} {p u : Tmp} {ty : TypeId} (h : fn.results = #[.cell p ty, .tmp u]) (tmps : Array Value) (w : World) (g : Nat) (t : TypeId) (cs : Array Value) (fr : Nat × Nat) (d : TypeDesc)
    (hp : tmps.getD p undef = .pointer (some ⟨g, 0, none⟩)) (hg : w.heap[g]? = some (.cells cs t fr))
    (hu : P.underlying ty = some d) (hd : (match d with | .struct _ | .array _ _ => true | _ => false) = true) (hi : (P.info? ty).map (·.size) = some cs.size) :
    (results fn tmps).run P w = .ok (.tuple #[.agg cs, tmps.getD u undef]) w := by
  rw [results_cell_tmp h, hp]
  simp [asAddr, run_loadVar_row w g t ty cs fr d hg hu hd hi, Result.andThen]

def rowW (w : World) (a b : Int) : World := w.alloc (.cells #[.int .i64 a, .int .i64 b] 104)
theorem rowW_chg (w : World) (a b : Int) : Chg [] w (rowW w a b) := (Chg.refl _ _).alloc _
theorem rowW_heap (w : World) (a b : Int) : (rowW w a b).heap[w.heap.size]? = some (.cells #[.int .i64 a, .int .i64 b] 104 (0, 0)) := heap_alloc_new _ _

theorem row_ret {w : World} {a b c : Int} {tmps : Array Value} {Q : Ending → World → Prop} (hp : tmps.getD 4 undef = .pointer (some ⟨w.heap.size, 0, none⟩)) (hc : tmps.getD 5 undef = .int .i64 c)
    (h : Q (.returned (.tuple #[.agg #[.int .i64 a, .int .i64 b], .int .i64 c])) (rowW w a b)) : bodyPost Try.prog Try.f92 Q Exit.ret { tmps := tmps, defers := [] } (rowW w a b) := by
  refine bodyPost_ret (results_ct rfl _ _ w.heap.size 104 _ (0, 0) _ hp (rowW_heap w a b) Try.underlying104 rfl (by kernel_rfl)) rfl ?_
  rw [hc]
  exact h

set_option maxHeartbeats 400000 in
set_option maxRecDepth 4000 in
theorem row_calls {w : World} {pm mp : Nat} {m : MS} (hM : MemAt w pm mp m) (k : Int) (hk : i64ok k) :
    Calls Try.prog 92 #[.pointer (some ⟨pm, 0, none⟩), .int .i64 k] w fun e w' => e = .returned (.tuple #[.agg #[.int .i64 (rowR m k).1, .int .i64 (rowR m k).2.1], .int .i64 (rowR m k).2.2]) ∧ Chg [] w w' := by
  by_cases hb : k < 0 ∨ 4 ≤ k
  · rw [rowR_bad hb]
    go_enter Try.func92, Try.ntmps92
    go_wp2
    all_goals exact row_ret rfl rfl ⟨rfl, rowW_chg _ _ _⟩
  · obtain ⟨i, rfl⟩ : ∃ i : Nat, k = i := ⟨k.toNat, by omega⟩
    have hi : i < 4 := by omega
    rw [rowR_in hi]
    have c4 : w.cell? ⟨pm, 4, none⟩ = some (.map (some mp)) := cell_of hM.1 rfl
    have ci : w.cell? ⟨pm, i, none⟩ = some (.int .i64 (m.val i)) := cell_of hM.1 (memCells_get mp m i hi)
    have hp : pm < w.heap.size := (Array.getElem?_eq_some_iff.1 hM.1).1
    have hl := (hM.2.chg (rowW_chg w 0 0) (by simp)).look hk
    rw [hasI_in hi, rowW] at hl
    clear hM
    by_cases hh : m.has i = true
    · rw [hh] at hl
      rw [if_pos hh]
      go_enter Try.func92, Try.ntmps92
      go_wp2
      all_goals exact row_ret rfl rfl ⟨rfl, rowW_chg _ _ _⟩
    · have hh' : m.has i = false := by simpa using hh
      rw [hh'] at hl
      rw [if_neg hh]
      go_enter Try.func92, Try.ntmps92
      go_wp2
      all_goals exact row_ret rfl rfl ⟨rfl, rowW_chg _ _ _⟩

theorem MemAt.chg {w w' : World} {bs : List Nat} {pm mp : Nat} {m : MS} (h : MemAt w pm mp m) (hc : Chg bs w w') (h1 : pm ∉ bs) (h2 : mp ∉ bs) : MemAt w' pm mp m := ⟨hc.keep h.1 h1, h.2.chg hc h2⟩

set_option maxHeartbeats 400000 in
set_option maxRecDepth 4000 in
theorem get_calls {w : World} {pm mp : Nat} {m : MS} (hM : MemAt w pm mp m) (k : Int) (hk : i64ok k) :
    Calls Try.prog 86 #[.pointer (some ⟨pm, 0, none⟩), .int .i64 k] w fun e w' => e = .returned (.tuple #[.int .i64 (rowR m k).2.1, .int .i64 (rowR m k).2.2]) ∧ Chg [] w w' := by
  have H : Hid (MemAt w pm mp m) := hM
  clear hM
  go_enter Try.func86, Try.ntmps86
  go_wp2_with fail
  refine (row_calls H.out k hk).mono ?_
  rintro e w' ⟨rfl, hc⟩
  have HC : Hid (Chg [] w w') := hc
  clear hc
  go_wp2
  go_ret2
  exact ⟨rfl, HC.out.alloc _⟩

/-- A Put of the table: the error, the table behind it. -/
def putM (m : MS) (k v : Int) : Int × MS := if inB k then (0, (m.setHas k.toNat true).setVal k.toNat v) else (1, m)

theorem putM_bad {m : MS} {k v : Int} (h : k < 0 ∨ 4 ≤ k) : putM m k v = (1, m) := by
  unfold putM
  rw [if_neg (by simp [inB]; omega)]
theorem putM_in {m : MS} {i : Nat} {v : Int} (h : i < 4) : putM m (i : Int) v = (0, (m.setHas i true).setVal i v) := by
  unfold putM
  rw [if_pos (by simp [inB]; omega)]
  simp

theorem setHas_self (m : MS) (i : Nat) (b : Bool) (h : m.has i = b) : m.setHas i b = m := by
  unfold MS.setHas
  congr 1
  funext j
  by_cases hj : j = i
  · subst hj; simp [h]
  · simp [hj]

theorem cells_setVal (mp : Nat) (m : MS) (i : Nat) (hi : i < 4) (v : Int) : (memCells mp m).setIfInBounds i (.int .i64 v) = memCells mp (m.setVal i v) := by
  rcases (by omega : i = 0 ∨ i = 1 ∨ i = 2 ∨ i = 3) with rfl | rfl | rfl | rfl <;> simp [memCells, MS.setVal, MS.cnt]

theorem cells_setN (mp : Nat) (m : MS) (n : MS) (hv : n.val = m.val) : (memCells mp m).setIfInBounds 5 (.int .i64 n.cnt) = memCells mp n := by
  simp [memCells, hv]

theorem HasAt.val {w : World} {mp : Nat} {m n : MS} (h : HasAt w mp m) (hn : n.has = m.has) : HasAt w mp n := by
  obtain ⟨D, h1, h2, h3, h4⟩ := h
  refine ⟨D, h1, ?_, ?_, ?_⟩
  · intro x; rw [h2]; simp [MS.hasI, hn]
  · intro x; rw [h3]; simp [MS.hasI, hn]
  · rw [h4]; simp [MS.cnt, hn]

theorem MemAt.ne {w : World} {pm mp : Nat} {m : MS} (h : MemAt w pm mp m) : pm ≠ mp := by
  rintro rfl
  obtain ⟨h1, D, ⟨es, c, h2, _⟩, _⟩ := h
  rw [h1] at h2
  cases h2

theorem MemAt.setVal {w : World} {pm mp : Nat} {m : MS} (h : MemAt w pm mp m) (i : Nat) (hi : i < 4) (v : Int) : MemAt (w.setCell ⟨pm, i, none⟩ (.int .i64 v)) pm mp (m.setVal i v) := by
  refine ⟨?_, ?_⟩
  · rw [heap_setCell_same w pm i _ _ _ h.1, cells_setVal mp m i hi]
  · exact HasAt.val (h.2.chg (bs := [pm]) ((Chg.refl _ _).setCell (Or.inl (by simp)) _) (by simpa using h.ne.symm)) rfl

set_option maxHeartbeats 400000 in
set_option maxRecDepth 4000 in
theorem put_calls {w : World} {pm mp : Nat} {m : MS} (hM : MemAt w pm mp m) (k v : Int) (hk : i64ok k) :
    Calls Try.prog 114 #[.pointer (some ⟨pm, 0, none⟩), .int .i64 k, .int .i64 v] w fun e w' => e = .returned (.int .i64 (putM m k v).1) ∧ MemAt w' pm mp (putM m k v).2 ∧ Chg [pm, mp] w w' := by
  by_cases hb : k < 0 ∨ 4 ≤ k
  · rw [putM_bad hb]
    have H : Hid (MemAt w pm mp m) := hM
    clear hM
    go_enter Try.func114, Try.ntmps114
    go_wp2
    all_goals (go_ret; exact ⟨rfl, H.out, Chg.refl _ _⟩)
  · obtain ⟨i, rfl⟩ : ∃ i : Nat, k = i := ⟨k.toNat, by omega⟩
    have hi : i < 4 := by omega
    rw [putM_in hi]
    have c4 : w.cell? ⟨pm, 4, none⟩ = some (.map (some mp)) := cell_of hM.1 rfl
    have hl := hM.2.look hk
    rw [hasI_in hi] at hl
    have H : Hid (MemAt w pm mp m) := hM
    by_cases hh : m.has i = true
    · have ci : w.cell? ⟨pm, i, none⟩ = some (.int .i64 (m.val i)) := cell_of hM.1 (memCells_get mp m i hi)
      have fi : w.frozen? ⟨pm, i, none⟩ = false := frozen_of hM.1
      clear hM
      rw [hh] at hl
      rw [setHas_self m i true hh]
      go_enter Try.func114, Try.ntmps114
      go_wp2
      go_ret
      exact ⟨rfl, H.out.setVal i hi v, (Chg.refl _ _).setCell (Or.inl (by simp)) _⟩
    · have hh' : m.has i = false := by simpa using hh
      rw [hh'] at hl
      obtain ⟨w1, hrun, hA, hC⟩ := hM.2.put i hi hh'
      have hne := hM.ne
      have h1 : w1.heap[pm]? = some (.cells (memCells mp m) 48 (0, 0)) := hC.keep hM.1 (by simpa using hne)
      have c5 : w1.cell? ⟨pm, 5, none⟩ = some (.int .i64 m.cnt) := cell_of h1 rfl
      have f5 : w1.frozen? ⟨pm, 5, none⟩ = false := frozen_of h1
      have ci : w1.cell? ⟨pm, i, none⟩ = some (.int .i64 (m.val i)) := cell_of h1 (memCells_get mp m i hi)
      have fi : w1.frozen? ⟨pm, i, none⟩ = false := frozen_of h1
      have hcl := cnt_le m
      have hi5 : ¬ i = 5 := by omega
      have HA : Hid (HasAt w1 mp (m.setHas i true)) := hA
      have HC : Hid (Chg [mp] w w1) := hC
      have H1 : Hid (w1.heap[pm]? = some (.cells (memCells mp m) 48 (0, 0))) := h1
      clear hM hA hC h1
      go_enter Try.func114, Try.ntmps114
      go_wp2
      go_ret
      have hm1 : MemAt (w1.setCell ⟨pm, 5, none⟩ (.int .i64 (m.setHas i true).cnt)) pm mp (m.setHas i true) :=
        ⟨by rw [heap_setCell_same w1 pm 5 _ _ _ H1.out, cells_setN mp m (m.setHas i true) rfl], HA.out.chg (bs := [pm]) ((Chg.refl _ _).setCell (Or.inl (by simp)) _) (by simpa using hne.symm)⟩
      have hcc := cnt_add m i hi hh'
      have hm2 := hm1.setVal i hi v
      rw [hcc, Int.natCast_add] at hm2
      exact ⟨rfl, hm2, ((HC.out.mono (by simp)).setCell (Or.inl (by simp)) _).setCell (Or.inl (by simp)) _⟩

/-- A Del of the table. -/
def delM (m : MS) (k : Int) : Int × MS := if inB k then (if m.has k.toNat then (0, (m.setHas k.toNat false).setVal k.toNat 0) else (2, m)) else (1, m)

theorem delM_ok {m : MS} {i : Nat} (h : i < 4) (hh : m.has i = true) : delM m (i : Int) = (0, (m.setHas i false).setVal i 0) := by
  unfold delM
  rw [if_pos (by simp [inB]; omega)]
  simp [hh]
theorem delM_err {m : MS} {k : Int} (h : (rowR m k).2.2 ≠ 0) : delM m k = ((rowR m k).2.2, m) := by
  unfold delM rowR at *
  split
  · rename_i h1
    rw [if_pos h1] at h
    split
    · rename_i h2
      simp [h2] at h
    · rename_i h2
      simp [h1, h2]
  · rename_i h1
    simp [h1]
theorem row_ok {m : MS} {k : Int} (h : (rowR m k).2.2 = 0) : ∃ i : Nat, i < 4 ∧ k = i ∧ m.has i = true := by
  unfold rowR at h
  split at h
  · rename_i h1
    split at h
    · rename_i h2
      simp [inB] at h1
      exact ⟨k.toNat, by omega, by omega, h2⟩
    · simp at h
  · simp at h

set_option maxHeartbeats 400000 in
set_option maxRecDepth 4000 in
theorem del_calls {w : World} {pm mp : Nat} {m : MS} (hM : MemAt w pm mp m) (k : Int) (hk : i64ok k) :
    Calls Try.prog 111 #[.pointer (some ⟨pm, 0, none⟩), .int .i64 k] w fun e w' => e = .returned (.int .i64 (delM m k).1) ∧ MemAt w' pm mp (delM m k).2 ∧ Chg [pm, mp] w w' := by
  have H : Hid (MemAt w pm mp m) := hM
  clear hM
  by_cases he : (rowR m k).2.2 = 0
  · obtain ⟨i, hi, rfl, hh⟩ := row_ok he
    have HE : Hid ((rowR m (i : Int)).2.2 = 0) := he
    rw [delM_ok hi hh]
    clear he
    go_enter Try.func111, Try.ntmps111
    go_wp2_with fail
    refine (row_calls H.out i hk).mono ?_
    rintro e w' ⟨rfl, hc⟩
    rw [HE.out]
    generalize (rowR m (i : Int)).1 = a0
    generalize (rowR m (i : Int)).2.1 = b0
    have hM' : MemAt (w'.alloc (.cells #[.int .i64 a0, .int .i64 b0] 104)) pm mp m := H.out.chg (hc.alloc _) (by simp) (by simp)
    have HC : Hid (Chg [] w (w'.alloc (.cells #[.int .i64 a0, .int .i64 b0] 104))) := hc.alloc _
    have c4 : (w'.alloc (.cells #[.int .i64 a0, .int .i64 b0] 104)).cell? ⟨pm, 4, none⟩ = some (.map (some mp)) := cell_of hM'.1 rfl
    obtain ⟨w1, hrun, hA, hC⟩ := hM'.2.del i hi hh 0
    have hne := hM'.ne
    have h1 : w1.heap[pm]? = some (.cells (memCells mp m) 48 (0, 0)) := hC.keep hM'.1 (by simpa using hne)
    have c5 : w1.cell? ⟨pm, 5, none⟩ = some (.int .i64 m.cnt) := cell_of h1 rfl
    have f5 : w1.frozen? ⟨pm, 5, none⟩ = false := frozen_of h1
    have ci : w1.cell? ⟨pm, i, none⟩ = some (.int .i64 (m.val i)) := cell_of h1 (memCells_get mp m i hi)
    have fi : w1.frozen? ⟨pm, i, none⟩ = false := frozen_of h1
    have hcl := cnt_le m
    have hi5 : ¬ i = 5 := by omega
    have HA : Hid (HasAt w1 mp (m.setHas i false)) := hA
    have HD : Hid (Chg [mp] (w'.alloc (.cells #[.int .i64 a0, .int .i64 b0] 104)) w1) := hC
    have H1 : Hid (w1.heap[pm]? = some (.cells (memCells mp m) 48 (0, 0))) := h1
    clear hc hM' hA hC h1
    go_wp2
    go_ret
    have hcc := cnt_sub m i hi hh
    have e1 : (m.cnt : Int) - 1 = ((((m.setHas i false).setVal i 0).cnt : Nat) : Int) := by
      show (m.cnt : Int) - 1 = (((m.setHas i false).cnt : Nat) : Int)
      omega
    have g1 : (w1.setCell ⟨pm, i, none⟩ (.int .i64 0)).heap[pm]? = some (.cells (memCells mp (m.setVal i 0)) 48 (0, 0)) := by
      rw [heap_setCell_same w1 pm i _ _ _ H1.out, cells_setVal mp m i hi]
    refine ⟨rfl, ⟨?_, ?_⟩, ?_⟩
    · rw [e1, heap_setCell_same _ pm 5 _ _ _ g1, cells_setN mp (m.setVal i 0) ((m.setHas i false).setVal i 0) rfl]
    · exact HasAt.val (HA.out.chg (bs := [pm]) (((Chg.refl _ _).setCell (Or.inl (by simp)) _).setCell (Or.inl (by simp)) _) (by simpa using hne.symm)) rfl
    · exact (((HC.out.any.trans (HD.out.mono (by simp)))).setCell (Or.inl (by simp)) _).setCell (Or.inl (by simp)) _
  · rw [delM_err he]
    have HE : Hid (¬ (rowR m k).2.2 = 0) := he
    clear he
    go_enter Try.func111, Try.ntmps111
    go_wp2_with fail
    refine (row_calls H.out k hk).mono ?_
    rintro e w' ⟨rfl, hc⟩
    have HC : Hid (Chg [] w w') := hc
    clear hc
    have hne := HE.out
    generalize hr : rowR m k = r at hne ⊢
    obtain ⟨a, b, c⟩ := r
    simp only at hne
    have HR : Hid (rowR m k = (a, b, c)) := hr
    clear hr
    go_wp2
    go_ret
    have h2 : Chg [] w (w'.alloc (.cells #[.int .i64 a, .int .i64 b] 104)) := HC.out.alloc _
    refine ⟨by rw [HR.out]; rfl, H.out.chg h2 (by simp) (by simp), h2.any⟩

set_option maxRecDepth 4000 in
theorem len_calls {w : World} {pm mp : Nat} {m : MS} (hM : MemAt w pm mp m) :
    Calls Try.prog 112 #[.pointer (some ⟨pm, 0, none⟩)] w fun e w' => e = .returned (.int .i64 m.cnt) ∧ w' = w := by
  have c5 : w.cell? ⟨pm, 5, none⟩ = some (.int .i64 m.cnt) := cell_of hM.1 rfl
  clear hM
  go_enter Try.func112, Try.ntmps112
  go_wp2
  go_ret
  exact ⟨rfl, rfl⟩

set_option maxRecDepth 4000 in
theorem name_calls (w : World) (v : Value) :
    Calls Try.prog 113 #[v] w fun e w' => e = .returned (.string ⟨#[109, 101, 109]⟩) ∧ w' = w := by
  go_enter Try.func113, Try.ntmps113
  go_wp2
  go_ret
  exact ⟨rfl, rfl⟩
end Go.Proofs.Qxb6500371a.W
