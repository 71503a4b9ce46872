import Derived.Test.Qxb6500374aMg
set_option linter.unusedVariables false
set_option linter.unusedSimpArgs false
namespace Go.Proofs.Qxb6500374a.W
open Go.RowKit Go.Maps

theorem info4 : (Try.prog.info? 4).map (fun i => (i.zero, i.size, i.bytes)) = some (some (.bool false), 1, 1) := by kernel_rfl

theorem mkI {n : Nat} (hn : n ≤ 100) (hm : madeCells (Value.int .i64 0).cells (n * 1) = Array.replicate n (.int .i64 0)) (w : World) : (Instr.makeSlice 44 (.int .i64 n) (.int .i64 n)).run Try.prog w = .ok (.slice (some ⟨w.heap.size, 0, none⟩) n n) (w.alloc (.cells (Array.replicate n (.int .i64 0)) 3)) := by
  obtain ⟨i, hi, hz0, hz1, hz2⟩ := info_parts info3
  have h := run_make (P := Try.prog) w 44 3 i _ Try.underlying44 hi hz0 .i64 .i64 n n (by omega) (Int.le_refl _) (by rw [hz2]; omega) (by omega)
  simp only [Int.toNat_natCast, hz1] at h
  rw [h, hm]
theorem mkB {n : Nat} (hn : n ≤ 100) (hm : madeCells (Value.bool false).cells (n * 1) = Array.replicate n (.bool false)) (w : World) : (Instr.makeSlice 58 (.int .i64 n) (.int .i64 n)).run Try.prog w = .ok (.slice (some ⟨w.heap.size, 0, none⟩) n n) (w.alloc (.cells (Array.replicate n (.bool false)) 4)) := by
  obtain ⟨i, hi, hz0, hz1, hz2⟩ := info_parts info4
  have h := run_make (P := Try.prog) w 58 4 i _ Try.underlying58 hi hz0 .i64 .i64 n n (by omega) (Int.le_refl _) (by rw [hz2]; omega) (by omega)
  simp only [Int.toNat_natCast, hz1] at h
  rw [h, hm]
theorem mkI8 (w : World) : (Instr.makeSlice 44 (.int .i64 8) (.int .i64 8)).run Try.prog w = .ok (.slice (some ⟨w.heap.size, 0, none⟩) 8 8) (w.alloc (.cells (Array.replicate 8 (.int .i64 0)) 3)) := mkI (n := 8) (by omega) (by kernel_rfl) w
theorem mkI10 (w : World) : (Instr.makeSlice 44 (.int .i64 10) (.int .i64 10)).run Try.prog w = .ok (.slice (some ⟨w.heap.size, 0, none⟩) 10 10) (w.alloc (.cells (Array.replicate 10 (.int .i64 0)) 3)) := mkI (n := 10) (by omega) (by kernel_rfl) w
theorem mkI25 (w : World) : (Instr.makeSlice 44 (.int .i64 25) (.int .i64 25)).run Try.prog w = .ok (.slice (some ⟨w.heap.size, 0, none⟩) 25 25) (w.alloc (.cells (Array.replicate 25 (.int .i64 0)) 3)) := mkI (n := 25) (by omega) (by kernel_rfl) w
theorem mkB8 (w : World) : (Instr.makeSlice 58 (.int .i64 8) (.int .i64 8)).run Try.prog w = .ok (.slice (some ⟨w.heap.size, 0, none⟩) 8 8) (w.alloc (.cells (Array.replicate 8 (.bool false)) 4)) := mkB (n := 8) (by omega) (by kernel_rfl) w
theorem mkB64 (w : World) : (Instr.makeSlice 58 (.int .i64 64) (.int .i64 64)).run Try.prog w = .ok (.slice (some ⟨w.heap.size, 0, none⟩) 64 64) (w.alloc (.cells (Array.replicate 64 (.bool false)) 4)) := mkB (n := 64) (by omega) (by kernel_rfl) w

theorem igrid_new (w : World) (n : Nat) : IGrid (w.alloc (.cells (Array.replicate n (.int .i64 0)) 3)) w.heap.size n (fun _ => 0) :=
  ⟨_, heap_alloc_new _ _, by simp, fun i hi => by simp [hi]⟩
theorem bgrid_new (w : World) (n : Nat) : BGrid (w.alloc (.cells (Array.replicate n (.bool false)) 4)) w.heap.size n (fun _ => false) :=
  ⟨_, heap_alloc_new _ _, by simp, fun i hi => by simp [hi]⟩

set_option maxRecDepth 4000 in
theorem mnode_calls (a : Int) (w : World) : Calls Try.prog 76 #[.int .i64 a] w fun e w' => e = .returned (.bool (isN a)) ∧ w' = w := by
  by_cases h0 : 0 ≤ a
  · by_cases h8 : a < 8
    · have d : isN a = true := by simp [isN, h0, h8]
      rw [d]
      clear d
      go_enter Try.func76, Try.ntmps76
      go_wp2
      go_ret
      exact ⟨rfl, rfl⟩
    · have d : isN a = false := by simp [isN, h8]
      rw [d]
      clear d
      go_enter Try.func76, Try.ntmps76
      go_wp2
      go_ret
      exact ⟨rfl, rfl⟩
  · have d : isN a = false := by simp [isN, h0]
    rw [d]
    clear d
    go_enter Try.func76, Try.ntmps76
    go_wp2
    go_ret
    exact ⟨rfl, rfl⟩
set_option maxRecDepth 4000 in
theorem isNode_calls (a : Int) (w : World) : Calls Try.prog 63 #[.int .i64 a] w fun e w' => e = .returned (.bool (isN a)) ∧ w' = w := by
  by_cases h0 : 0 ≤ a
  · by_cases h8 : a < 8
    · have d : isN a = true := by simp [isN, h0, h8]
      rw [d]
      clear d
      go_enter Try.func63, Try.ntmps63
      go_wp2
      go_ret
      exact ⟨rfl, rfl⟩
    · have d : isN a = false := by simp [isN, h8]
      rw [d]
      clear d
      go_enter Try.func63, Try.ntmps63
      go_wp2
      go_ret
      exact ⟨rfl, rfl⟩
  · have d : isN a = false := by simp [isN, h0]
    rw [d]
    clear d
    go_enter Try.func63, Try.ntmps63
    go_wp2
    go_ret
    exact ⟨rfl, rfl⟩

set_option maxRecDepth 4000 in
theorem mnans_calls {w : World} {pd pA pC : Nat} {lo hi : Int} {S : WS} (h : MdAt w pd pA pC lo hi S) : Calls Try.prog 72 #[pt pd] w fun x w' => x = .returned (.int .i64 S.nn) ∧ w' = w := by
  have c2 : w.cell? ⟨pd, 2, none⟩ = some (.int .i64 S.nn) := cell_of h.row rfl
  clear h
  go_enter Try.func72, Try.ntmps72
  go_wp2
  go_ret
  exact ⟨rfl, rfl⟩

set_option maxRecDepth 4000 in
theorem mspan_calls {w : World} {pd pA pC : Nat} {lo hi : Int} {S : WS} (h : MdAt w pd pA pC lo hi S) : Calls Try.prog 61 #[pt pd] w fun x w' => x = .returned (.tuple #[.int .i64 lo, .int .i64 hi]) ∧ Chg [] w w' := by
  have c3 : w.cell? ⟨pd, 3, none⟩ = some (.int .i64 lo) := cell_of h.row rfl
  have c4 : w.cell? ⟨pd, 4, none⟩ = some (.int .i64 hi) := cell_of h.row rfl
  clear h
  go_enter Try.func61, Try.ntmps61
  go_wp2_with fail
  go_quiet (fail)
  go_wp2
  go_ret2
  exact ⟨rfl, (Chg.refl _ _).drewN _⟩

set_option maxHeartbeats 1000000 in
set_option maxRecDepth 4000 in
theorem msize_calls {w : World} {pd pA pC : Nat} {lo hi : Int} {S : WS} (h : MdAt w pd pA pC lo hi S) (ho : S.ok) : Calls Try.prog 71 #[pt pd] w fun x w' => x = .returned (.int .i64 (sizeS S)) ∧ w' = w := by
  have c2 : w.cell? ⟨pd, 2, none⟩ = some (.int .i64 S.nn) := cell_of h.row rfl
  have c1 : w.cell? ⟨pd, 1, none⟩ = some (.slice (some ⟨pC, 0, none⟩) 25 25) := cell_of h.row rfl
  have HG : Hid (IGrid w pC 25 (ct S.cn)) := h.cnt
  have hs := ho.small
  have E : Hid (sizeS S = S.nn + pc (ct S.cn) 25) := by show sizeS S = _; rw [pc_ct]; unfold sizeS; omega
  have hnn : S.nn ≤ 10 := by omega
  clear h ho hs
  generalize ct S.cn = f at *
  generalize S.nn = nn at *
  go_enter Try.func71, Try.ntmps71
  go_wp2_with fail
  go_loopw [3, 4] (fun v3 v4 wr => ∃ i : Nat, i ≤ 25 ∧ v4 = .int .i64 i ∧ v3 = .int .i64 ((nn + pc f i : Nat) : Int) ∧ wr = w) (fun _ v4 _ => (25 - intOf v4).toNat)
  case atStart => exact ⟨0, by omega, rfl, by simp [pc], rfl⟩
  case round =>
    obtain ⟨i, hi, rfl, rfl, rfl⟩ := hrel
    have hpl := pc_le f i
    by_cases h25 : i < 25
    · have hc := HG.out.cell h25
      have HS : Hid (pc f (i + 1) = pc f i + one1 (f i)) := rfl
      generalize pc f i = q at *
      generalize hfi : f i = x at *
      clear hfi
      by_cases hx : 0 < x
      · have d : decide (0 < x) = true := by simpa using hx
        go_wp2
        exact ⟨⟨i + 1, by omega, by simp, by rw [HS.out]; simp [one1, hx]; omega, trivial⟩, by simp [intOf]; omega⟩
      · have d : decide (0 < x) = false := by simpa using hx
        go_wp2
        exact ⟨⟨i + 1, by omega, by simp, by rw [HS.out]; simp [one1, hx], trivial⟩, by simp [intOf]; omega⟩
    · obtain rfl : i = 25 := by omega
      go_wp2
      go_ret
      exact ⟨by rw [E.out]; simp, rfl⟩

set_option maxRecDepth 4000 in
theorem mcheck_calls {w : World} {pd pA pC : Nat} {lo hi : Int} {S : WS} (h : MdAt w pd pA pC lo hi S) (ho : S.ok) : Calls Try.prog 75 #[pt pd] w fun x w' => x = .returned (.bool true) ∧ w' = w := by
  have c2 : w.cell? ⟨pd, 2, none⟩ = some (.int .i64 S.nn) := cell_of h.row rfl
  have H : Hid (MdAt w pd pA pC lo hi S) := h
  have HO : Hid S.ok := ho
  have hb : sizeS S ≤ 10 := by have := ho.small; unfold sizeS; omega
  have d1 : decide (sizeS S ≤ 10) = true := by simpa using hb
  have d2 : decide ((0 : Int) ≤ (S.nn : Int)) = true := by simp
  clear h ho
  go_enter Try.func75, Try.ntmps75
  go_wp2_with fail
  refine (msize_calls H.out HO.out).mono ?_
  rintro x w2 ⟨rfl, hw2⟩
  obtain rfl : w = w2 := hw2.symm
  clear hw2
  generalize sizeS S = z at *
  go_wp2
  go_ret
  exact ⟨rfl, rfl⟩

set_option maxHeartbeats 1000000 in
set_option maxRecDepth 4000 in
theorem at_calls {h t : Nat} (hh : h ≤ t) (ht : t ≤ 4) (h0 : 0 < t) (w : World) : Calls Try.prog 78 #[.int .i64 h, .int .i64 t] w fun e w' => e = .returned (.int .i64 (atI h t)) ∧ Chg [] w w' := by
  obtain ⟨⟨a1, _, _, a4, a5⟩, _⟩ := at_all t (by omega) h (by omega) h0 hh
  have E : Hid ((atI h t : Int) = ((t / Nat.gcd h t : Nat) : Int) * 5 + ((h / Nat.gcd h t : Nat) : Int)) := by show _ = _; unfold atI; omega
  have b1 : t / Nat.gcd h t ≤ 4 := Nat.le_trans (Nat.div_le_self _ _) ht
  have b2 : h / Nat.gcd h t ≤ 4 := Nat.le_trans (Nat.div_le_self _ _) (by omega)
  go_enter Try.func78, Try.ntmps78
  go_wp2_with fail
  refine (gcd_calls (a := h) (b := t) (by omega) (by omega) w).mono ?_
  rintro x w2 ⟨rfl, hc⟩
  have HC : Hid (Chg [] w w2) := hc
  have e1 : (t : Int).tdiv (Nat.gcd h t : Nat) = ((t / Nat.gcd h t : Nat) : Int) := rfl
  have e2 : (h : Int).tdiv (Nat.gcd h t : Nat) = ((h / Nat.gcd h t : Nat) : Int) := rfl
  clear hc a1
  generalize Nat.gcd h t = g at *
  generalize t / g = x at *
  generalize h / g = y at *
  go_wp2_with fail
  go_quiet (fail)
  go_wp2
  go_ret
  exact ⟨by rw [E.out]; rfl, HC.out.drewN _⟩
end Go.Proofs.Qxb6500374a.W
