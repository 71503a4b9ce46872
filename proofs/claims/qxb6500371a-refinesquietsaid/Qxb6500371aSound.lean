import Derived.Test.Qxb6500371aCh5
set_option linter.unusedVariables false
set_option linter.unusedSimpArgs false
namespace Go.Proofs.Qxb6500371a.W
open Go.RowKit Go.Maps

def cntTo (m : MS) : Nat → Nat
  | 0 => 0
  | j + 1 => cntTo m j + b1 (m.has j)
theorem cntTo4 (m : MS) : cntTo m 4 = m.cnt := by simp [cntTo, MS.cnt]
theorem cntTo_le (m : MS) : ∀ j, cntTo m j ≤ j
  | 0 => by simp [cntTo]
  | j + 1 => by
    have := cntTo_le m j
    have h : b1 (m.has j) ≤ 1 := by unfold b1; split <;> omega
    simp only [cntTo]; omega

def MS.zero (m : MS) : Prop := ∀ i, i < 4 → m.has i = false → m.val i = 0

@[go_sem] theorem eq_map_nil (b : Nat) (w : World) : (binOp .eql 46 (.map (some b)) (.map none)).run Try.prog w = .ok (.bool false) w := by kernel_rfl

set_option maxHeartbeats 1000000 in
set_option maxRecDepth 4000 in
theorem sound_calls {w : World} {pm mp : Nat} {m : MS} (hM : MemAt w pm mp m) (hz : m.zero) :
    Calls Try.prog 85 #[.pointer (some ⟨pm, 0, none⟩)] w fun e w' => e = .returned (.bool true) ∧ w' = w := by
  have H : Hid (MemAt w pm mp m) := hM
  have HZ : Hid m.zero := hz
  have c4 : w.cell? ⟨pm, 4, none⟩ = some (.map (some mp)) := cell_of hM.1 rfl
  have c5 : w.cell? ⟨pm, 5, none⟩ = some (.int .i64 m.cnt) := cell_of hM.1 rfl
  have hln := hM.2.len 3
  clear hM hz
  go_enter Try.func85, Try.ntmps85
  go_wp2
  go_loopw [3, 4] (fun v3 v4 wr => ∃ j : Nat, j ≤ 4 ∧ v4 = .int .i64 j ∧ v3 = .int .i64 (cntTo m j : Nat) ∧ wr = w) (fun _ v4 _ => (4 - intOf v4).toNat)
  case atStart => exact ⟨0, by omega, rfl, rfl, rfl⟩
  case round =>
    obtain ⟨j, hj, rfl, rfl, rfl⟩ := hrel
    have hcl := cntTo_le m j
    by_cases hj4 : j < 4
    · have hl := H.out.2.look (x := (j : Int)) ⟨by omega, by omega⟩
      rw [hasI_in hj4] at hl
      by_cases hh : m.has j = true
      · rw [hh] at hl
        have e : cntTo m (j + 1) = cntTo m j + 1 := by rw [cntTo, hh]; rfl
        have E : Hid (cntTo m (j + 1) = cntTo m j + 1) := e
        clear e
        generalize cntTo m j = c at *
        go_wp2
        exact ⟨⟨j + 1, by omega, by simp, by rw [E.out]; simp, trivial⟩, by simp [intOf]; omega⟩
      · have hh' : m.has j = false := by simpa using hh
        rw [hh'] at hl
        have e : cntTo m (j + 1) = cntTo m j := by rw [cntTo, hh']; rfl
        have E : Hid (cntTo m (j + 1) = cntTo m j) := e
        have cj : wr.cell? ⟨pm, j, none⟩ = some (.int .i64 0) := by
          rw [← HZ.out j hj4 hh']; exact cell_of H.out.1 (memCells_get mp m j hj4)
        clear e
        generalize cntTo m j = c at *
        go_wp2
        exact ⟨⟨j + 1, by omega, by simp, by rw [E.out], trivial⟩, by simp [intOf]; omega⟩
    · have e : cntTo m j = m.cnt := by rw [show j = 4 by omega, cntTo4]
      rw [e]
      clear hcl e
      go_wp2
      go_ret
      exact ⟨rfl, rfl⟩
end Go.Proofs.Qxb6500371a.W
