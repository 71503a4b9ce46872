import Derived.Test.Qxb6500371aClear
set_option linter.unusedVariables false
set_option linter.unusedSimpArgs false
namespace Go.Proofs.Qxb6500371a.W
open Go.RowKit Go.Maps

theorem digs_len : ∀ (f : Nat) (n : Int) (acc : List Int), (digs f n acc).length ≤ f + acc.length
  | 0, _, _ => by simp [digs]
  | f + 1, n, acc => by
    rw [digs]
    split
    · omega
    · have := digs_len f (n.tdiv 10) (dig n :: acc)
      simp at this
      omega

theorem bytesL_size (l : List Int) : (bytesL l).size = l.length := by
  have : ∀ (l : List Int) (b : ByteArray), (l.foldl (fun r n => r.push (UInt8.ofNat n.toNat)) b).size = b.size + l.length := by
    intro l
    induction l with
    | nil => simp
    | cons x l ih => intro b; simp only [List.foldl_cons, ih, List.length_cons, ByteArray.size_push]; omega
  rw [bytesL, this]
  simp

theorem itoa_size (n : Int) : (itoa n).size ≤ 21 := by
  rw [itoa, bytesL_size, itoaL]
  have := digs_len 20 n []
  simp at this
  split
  · simp
  · split
    · simp; omega
    · omega

def tellM (m : MS) : Nat → ByteArray
  | 0 => ⟨#[109, 101, 109, 91]⟩
  | j + 1 => if m.has j then ((if 4 < (tellM m j).size then tellM m j ++ ⟨#[32]⟩ else tellM m j) ++ ((itoa j ++ ⟨#[61]⟩) ++ itoa (m.val j))) else tellM m j

theorem tellM_size (m : MS) (j : Nat) : (tellM m j).size ≤ 4 + 50 * j := by
  induction j with
  | zero => simp [tellM]; decide
  | succ j ih =>
    have h1 := itoa_size j
    have h2 := itoa_size (m.val j)
    have e1 : (⟨#[32]⟩ : ByteArray).size = 1 := rfl
    have e2 : (⟨#[61]⟩ : ByteArray).size = 1 := rfl
    rw [tellM]
    split
    · split <;> simp only [ByteArray.size_append, e1, e2] <;> omega
    · omega

set_option maxHeartbeats 1000000 in
set_option maxRecDepth 4000 in
theorem tell_calls {w : World} {pm mp : Nat} {m : MS} (hM : MemAt w pm mp m) (hv : ∀ i, i < 4 → i64ok (m.val i)) :
    Calls Try.prog 115 #[.pointer (some ⟨pm, 0, none⟩)] w fun e w' => e = .returned (.string (tellM m 4 ++ ⟨#[93]⟩)) ∧ Chg [] w w' := by
  have H : Hid (MemAt w pm mp m) := hM
  have HV : Hid (∀ i, i < 4 → i64ok (m.val i)) := hv
  clear hM hv
  go_enter Try.func115, Try.ntmps115
  go_wp2
  go_loopw [3, 4] (fun v3 v4 wr => ∃ j : Nat, j ≤ 4 ∧ v4 = .int .i64 j ∧ v3 = .string (tellM m j) ∧ Chg [] w wr) (fun _ v4 _ => (4 - intOf v4).toNat)
  case atStart => exact ⟨0, by omega, rfl, rfl, Chg.refl _ _⟩
  case round =>
    obtain ⟨j, hj, rfl, rfl, hc⟩ := hrel
    have HC : Hid (Chg [] w wr) := hc
    have hM : MemAt wr pm mp m := H.out.chg hc (by simp) (by simp)
    have HM : Hid (MemAt wr pm mp m) := hM
    have c4 : wr.cell? ⟨pm, 4, none⟩ = some (.map (some mp)) := cell_of hM.1 rfl
    have hsz := tellM_size m j
    have hsz' : (tellM m j).size ≤ 300 := by omega
    clear hsz
    by_cases hj4 : j < 4
    · have hl := hM.2.look (x := (j : Int)) ⟨by omega, by omega⟩
      rw [hasI_in hj4] at hl
      clear hc
      by_cases hh : m.has j = true
      · rw [hh] at hl
        clear hM
        have e : tellM m (j + 1) = (if 4 < (tellM m j).size then tellM m j ++ ⟨#[32]⟩ else tellM m j) ++ ((itoa j ++ ⟨#[61]⟩) ++ itoa (m.val j)) := by rw [tellM, if_pos hh]
        have E : Hid _ := e
        clear e
        by_cases h4 : 4 < (tellM m j).size
        · go_wp2_with fail
          refine (itoa_calls j (by omega) (by omega) _).mono ?_
          rintro e w1 ⟨rfl, hc1⟩
          have hM1 : MemAt w1 pm mp m := HM.out.chg hc1 (by simp) (by simp)
          have cj : w1.cell? ⟨pm, j, none⟩ = some (.int .i64 (m.val j)) := cell_of hM1.1 (memCells_get mp m j hj4)
          have HC1 : Hid (Chg [] wr w1) := hc1
          clear hM1 hc1 hl
          go_wp2_with fail
          refine (itoa_calls (m.val j) (HV.out j hj4).1 (HV.out j hj4).2 _).mono ?_
          rintro e w2 ⟨rfl, hc2⟩
          have HC2 : Hid (Chg [] w1 w2) := hc2
          clear hc2
          have i1 := itoa_size j
          have i2 := itoa_size (m.val j)
          go_wp2
          exact ⟨⟨j + 1, by omega, by simp, by rw [E.out, if_pos h4], (HC.out.trans HC1.out).trans HC2.out⟩, by simp [intOf]; omega⟩
        · go_wp2_with fail
          refine (itoa_calls j (by omega) (by omega) _).mono ?_
          rintro e w1 ⟨rfl, hc1⟩
          have hM1 : MemAt w1 pm mp m := HM.out.chg hc1 (by simp) (by simp)
          have cj : w1.cell? ⟨pm, j, none⟩ = some (.int .i64 (m.val j)) := cell_of hM1.1 (memCells_get mp m j hj4)
          have HC1 : Hid (Chg [] wr w1) := hc1
          clear hM1 hc1 hl
          go_wp2_with fail
          refine (itoa_calls (m.val j) (HV.out j hj4).1 (HV.out j hj4).2 _).mono ?_
          rintro e w2 ⟨rfl, hc2⟩
          have HC2 : Hid (Chg [] w1 w2) := hc2
          clear hc2
          have i1 := itoa_size j
          have i2 := itoa_size (m.val j)
          go_wp2
          exact ⟨⟨j + 1, by omega, by simp, by rw [E.out, if_neg (by omega)], (HC.out.trans HC1.out).trans HC2.out⟩, by simp [intOf]; omega⟩
      · have hh' : m.has j = false := by simpa using hh
        rw [hh'] at hl
        clear hM
        have e : tellM m (j + 1) = tellM m j := by rw [tellM, if_neg hh]
        have E : Hid (tellM m (j + 1) = tellM m j) := e
        clear e
        go_wp2
        exact ⟨⟨j + 1, by omega, by simp, by rw [E.out], HC.out⟩, by simp [intOf]; omega⟩
    · clear hc hM
      have e : j = 4 := by omega
      have E : Hid (j = 4) := e
      clear e
      go_wp2
      go_ret
      exact ⟨by rw [← E.out]; rfl, HC.out⟩
end Go.Proofs.Qxb6500371a.W
