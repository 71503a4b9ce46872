import Derived.Test.Qxb6500371aCh5
set_option linter.unusedVariables false
set_option linter.unusedSimpArgs false
namespace Go.Proofs.Qxb6500371a.W
open Go.RowKit Go.Maps

theorem has_made (w : World) : HasAt (w.alloc (.map #[] 0)) w.heap.size zeroM := by
  refine ⟨.map [], (World.ownsMap_made w Try.prog 3 (plainElem Try.prog 4)).mono (by omega), ?_, ?_, ?_⟩
  · intro x; simp [MS.hasI, zeroM]; rfl
  · intro x; simp [MS.hasI, zeroM]; rfl
  · rfl

set_option maxHeartbeats 1000000 in
set_option maxRecDepth 4000 in
theorem xnew_calls (w : World) :
    Calls Try.prog 37 #[] w fun x w' => ∃ px pm mp, x = .returned (pt px) ∧ ChainAt w' px pm mp ⟨zeroM, [], none⟩ ∧ Chg [] w w' ∧ ∀ b ∈ px :: bl pm mp [], w.heap.size ≤ b := by
  have hmm : (Instr.makeMap 46 none).run Try.prog w = .ok (.map (some w.heap.size)) (w.alloc (.map #[] 0)) := run_makeMap 46 w
  go_enter Try.func37, Try.ntmps37
  go_wp2
  go_ret
  have hm := (has_made w).chg (bs := []) (((Chg.refl [] _).alloc (.cells (memCells w.heap.size zeroM) 48)).alloc (.cells (chainCells (w.heap.size + 1) ⟨zeroM, [], none⟩) 56)) (by simp)
  refine ⟨w.heap.size + 1 + 1, w.heap.size + 1, w.heap.size, rfl, ⟨?_, ?_, ⟨?_, hm⟩⟩, (((Chg.refl [] w).alloc _).alloc _).alloc _, ?_⟩
  · have := heap_alloc_new ((w.alloc (.map #[] 0)).alloc (.cells (memCells w.heap.size zeroM) 48)) (.cells (chainCells (w.heap.size + 1) ⟨zeroM, [], none⟩) 56)
    have e : ((w.alloc (.map #[] 0)).alloc (.cells (memCells w.heap.size zeroM) 48)).heap.size = w.heap.size + 1 + 1 := by simp
    rw [e] at this
    exact this
  · simp [bl]; omega
  · have := heap_alloc_new (w.alloc (.map #[] 0)) (.cells (memCells w.heap.size zeroM) 48)
    have e : (w.alloc (.map #[] 0)).heap.size = w.heap.size + 1 := by simp
    rw [e] at this
    exact Chg.keep (bs := []) ((Chg.refl _ _).alloc _) this (by simp)
  · intro b hb
    simp only [bl, List.map_nil, List.nil_append, List.mem_cons, List.not_mem_nil, or_false] at hb
    omega
end Go.Proofs.Qxb6500371a.W
