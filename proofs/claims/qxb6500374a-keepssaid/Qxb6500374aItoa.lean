import Derived.Test.Qxb6500374aBs
import Derived.WalkKit
import Derived.Deep.QuietTactic
import Derived.Laws.BytesString
set_option linter.unusedVariables false
set_option linter.unusedSimpArgs false
namespace Go.Proofs.Qxb6500374a.W
open Go.RowKit

/-- The digit's byte, as the Go text reckons it. -/
def dig (m : Int) : Int := if m.tmod 10 < 0 then wrap64 (48 + wrap64 (-m.tmod 10)) % 256 else wrap64 (48 + m.tmod 10) % 256
def digs : Nat → Int → List Int → List Int
  | 0, _, acc => acc
  | f + 1, n, acc => if n = 0 then acc else digs f (n.tdiv 10) (dig n :: acc)
def itoaL (n : Int) : List Int := if n = 0 then [48] else if n < 0 then 45 :: digs 20 n [] else digs 20 n []
def bytesL (l : List Int) : ByteArray := l.foldl (fun r n => r.push (UInt8.ofNat n.toNat)) ByteArray.empty
def itoa (n : Int) : ByteArray := bytesL (itoaL n)


theorem digs_zero (f : Nat) (acc : List Int) : digs f 0 acc = acc := by cases f <;> simp [digs]

theorem digs_ne : ∀ (f : Nat) (n : Int) (acc : List Int), acc ≠ [] → digs f n acc ≠ []
  | 0, _, _, h => h
  | f + 1, n, acc, h => by
    rw [digs]
    split
    · exact h
    · exact digs_ne f _ _ (by simp)

theorem pow_step (n : Int) (k : Nat) (h : n.natAbs < 10 ^ (k + 1)) : (n.tdiv 10).natAbs < 10 ^ k := by
  rw [Int.natAbs_tdiv]
  rw [Nat.pow_succ] at h
  show n.natAbs / 10 < _
  omega

def bufW (w : World) (i : Nat) (l : List Int) : World := w.alloc (.cells ((List.replicate i (Value.int .u8 0) ++ l.map (Value.int .u8)).toArray) 73)

theorem buf_cell (w : World) (j : Nat) (l : List Int) : (bufW w (j + 1) l).cell? ⟨w.heap.size, j, none⟩ = some (.int .u8 0) := by
  rw [bufW, World.cell?_alloc_mark]
  simp only [List.getElem?_toArray]
  rw [List.getElem?_append_left (by simp)]
  simp

theorem buf_frozen (w : World) (j i : Nat) (l : List Int) : (bufW w i l).frozen? ⟨w.heap.size, j, none⟩ = false := by
  rw [bufW, World.frozen?_alloc_mark]
  simp

theorem buf_set (w : World) (j : Nat) (l : List Int) (v : Int) : (bufW w (j + 1) l).setCell ⟨w.heap.size, j, none⟩ (.int .u8 v) = bufW w j (v :: l) := by
  rw [bufW, bufW, World.setCell_alloc_new]
  congr 2
  rw [← Array.toList_inj]
  simp only [Array.toList_setIfInBounds, List.replicate_succ', List.append_assoc, List.singleton_append, List.map_cons]
  rw [List.set_append_right _ _ (by simp)]
  simp

theorem buf_heap (w : World) (i : Nat) (l : List Int) : (bufW w i l).heap[w.heap.size]? = some (.cells ((List.replicate i (Value.int .u8 0) ++ l.map (Value.int .u8)).toArray) 73 (0, 0)) := by
  show (w.heap.push _)[w.heap.size]? = _
  simp

theorem loadCells_run {P : Program} (B i : Nat) (cs : Array Value) (t : TypeId) (l : List Value) (w : World) (hb : w.heap[B]? = some (.cells cs t (0, 0))) (hl : cs.toList.drop i = l) :
    (loadCells ⟨B, i, none⟩ l.length).run P w = .ok l.toArray w := by
  apply run_loadCells_list
  intro j v hv
  rw [← hl, List.getElem?_drop] at hv
  have e : Addr.add ⟨B, i, none⟩ j = ⟨B, i + j, none⟩ := by
    unfold Addr.add
    by_cases hj : j = 0
    · subst hj; simp
    · simp [hj]
  rw [e]
  simp only [World.cell?, hb]
  simpa using hv

theorem conv_run (B i c : Nat) (cs : Array Value) (t : TypeId) (l : List Int) (w : World) (hb : w.heap[B]? = some (.cells cs t (0, 0))) (hl : cs.toList.drop i = l.map (Value.int .u8)) :
    (convert 74 9 (.slice (some ⟨B, i, none⟩) l.length c)).run Try.prog w = .ok (.string (bytesL l)) w := by
  rw [run_convert_bytes_string w 74 9 5 _ _ _ (by kernel_rfl) (by kernel_rfl) (by kernel_rfl)]
  have h := loadCells_run (P := Try.prog) B i cs t _ w hb hl
  rw [List.length_map] at h
  exact run_bytesToString w _ _ _ _ h

theorem conv_buf (w : World) (i n : Nat) (l : List Int) (hn : l.length = n) :
    (convert 74 9 (.slice (some ⟨w.heap.size, i, none⟩) n n)).run Try.prog (bufW w i l) = .ok (.string (bytesL l)) (bufW w i l) := by
  subst hn
  exact conv_run _ _ _ _ _ l _ (buf_heap w i l) (by simp)

theorem slice_buf (B j : Nat) (hj : j < 24) (w : World) :
    (Instr.sliceAt 73 (.pointer (some ⟨B, 0, none⟩)) (some (.int .i64 (j : Int))) none none).run Try.prog w = .ok (.slice (some ⟨B, j, none⟩) (24 - j) (24 - j)) w := by
  have hl : Try.prog.arrayLen 73 = 24 := by kernel_rfl
  have hs : (sizeOf (Try.prog.elem 73)).run Try.prog w = .ok 1 w := by kernel_rfl
  rw [run_sliceAt_array_l w 73 ⟨B, 0, none⟩ (by kernel_rfl) .i64 j (by omega) (by rw [hl]; omega), hs, hl]
  simp only [Result.andThen, slicedAt, Int.toNat_natCast, Nat.mul_one]
  rw [if_neg (by omega)]
  have e : Addr.add ⟨B, 0, none⟩ j = ⟨B, j, none⟩ := by
    unfold Addr.add
    by_cases hj : j = 0
    · subst hj; simp
    · simp [hj]
  rw [e]

theorem tdiv_range {m : Int} (h1 : -9223372036854775808 ≤ m) (h2 : m ≤ 9223372036854775807) : -9223372036854775808 ≤ m.tdiv 10 ∧ m.tdiv 10 ≤ 9223372036854775807 := by
  have := Int.natAbs_tdiv m 10
  have e : (m.tdiv 10).natAbs = m.natAbs / 10 := this
  omega

set_option maxHeartbeats 1000000 in
set_option maxRecDepth 4000 in
theorem itoa_calls (n : Int) (h0 : -9223372036854775808 ≤ n) (h1 : n ≤ 9223372036854775807) (w : World) :
    Calls Try.prog 46 #[.int .i64 n] w fun e w' => e = .returned (.string (itoa n)) ∧ Chg [] w w' := by
  by_cases hz : n = 0
  · subst hz
    go_enter Try.func46, Try.ntmps46
    go_wp2
    go_ret
    exact ⟨rfl, Chg.refl _ _⟩
  · go_enter Try.func46, Try.ntmps46
    go_wp2
    go_loopw [0, 4] (fun v0 v4 wr => ∃ (m : Int) (i : Nat) (acc : List Int), v0 = .int .i64 m ∧ v4 = .int .i64 i ∧ 5 ≤ i ∧ i ≤ 24 ∧ m.natAbs < 10 ^ (i - 5) ∧ acc.length = 24 - i ∧ digs (i - 4) m acc = digs 20 n [] ∧
        -9223372036854775808 ≤ m ∧ m ≤ 9223372036854775807 ∧ wr = bufW w i acc) (fun v0 v4 _ => (intOf v4).toNat)
    case atStart => exact ⟨n, 24, [], rfl, rfl, by omega, by omega, by omega, rfl, rfl, h0, h1, rfl⟩
    case round =>
      obtain ⟨m, i, acc, rfl, rfl, hi5, hi24, hm, hacc, hd, hm1, hm2, hwr⟩ := hrel
      have HD : Hid (digs (i - 4) m acc = digs 20 n []) := hd
      have HW : Hid (wr = bufW w i acc) := hwr
      have HM : Hid (m.natAbs < 10 ^ (i - 5)) := hm
      have HA : Hid (acc.length = 24 - i) := hacc
      clear hd hacc
      by_cases hm0 : m = 0
      · subst hm0
        have hacc : digs 20 n [] = acc := by rw [← HD.out, digs_zero]
        have HC : Hid (digs 20 n [] = acc) := hacc
        clear hacc hm
        by_cases hneg : n < 0
        · obtain ⟨j, rfl⟩ : ∃ j, i = j + 1 := ⟨i - 1, by omega⟩
          have hc : wr.cell? ⟨w.heap.size, j, none⟩ = some (.int .u8 0) := by rw [hwr]; exact buf_cell _ _ _
          have hf : wr.frozen? ⟨w.heap.size, j, none⟩ = false := by rw [hwr]; exact buf_frozen _ _ _ _
          clear hwr
          have hs := slice_buf w.heap.size j (by omega) (wr.setCell ⟨w.heap.size, j, none⟩ (.int .u8 45))
          have hv : (convert 74 9 (.slice (some ⟨w.heap.size, j, none⟩) (24 - j) (24 - j))).run Try.prog (wr.setCell ⟨w.heap.size, j, none⟩ (.int .u8 45)) = .ok (.string (bytesL (45 :: acc))) (wr.setCell ⟨w.heap.size, j, none⟩ (.int .u8 45)) := by
            rw [HW.out, buf_set]
            exact conv_buf w j _ _ (by have := HA.out; simp only [List.length_cons]; omega)
          go_wp2
          go_ret
          refine ⟨?_, ?_⟩
          · have e : itoa n = bytesL (45 :: acc) := by rw [itoa, itoaL, if_neg hz, if_pos hneg, HC.out]
            rw [e]; rfl
          · rw [HW.out, buf_set]
            exact Chg.alloc (Chg.refl _ _) _
        · clear hwr
          have hlt : i < 24 := by
            rcases Nat.lt_or_ge i 24 with h | h
            · exact h
            · exfalso
              have h3 := HA.out
              have h4 : acc = [] := List.eq_nil_of_length_eq_zero (by omega)
              have h5 := HC.out
              rw [h4, digs, if_neg hz] at h5
              exact digs_ne _ _ _ (by simp) h5
          have hs := slice_buf w.heap.size i hlt wr
          have hv : (convert 74 9 (.slice (some ⟨w.heap.size, i, none⟩) (24 - i) (24 - i))).run Try.prog wr = .ok (.string (bytesL acc)) wr := by
            rw [HW.out]
            exact conv_buf w i _ _ HA.out
          go_wp2
          go_ret
          refine ⟨?_, ?_⟩
          · have e : itoa n = bytesL acc := by rw [itoa, itoaL, if_neg hz, if_neg (by omega), HC.out]
            rw [e]; rfl
          · rw [HW.out]
            exact Chg.alloc (Chg.refl _ _) _
      · have hi6 : 6 ≤ i := by
          rcases Nat.lt_or_ge i 6 with h | h
          · have : i = 5 := by omega
            subst this
            simp at hm
            omega
          · exact h
        clear hm
        obtain ⟨j, rfl⟩ : ∃ j, i = j + 1 := ⟨i - 1, by omega⟩
        have hc : wr.cell? ⟨w.heap.size, j, none⟩ = some (.int .u8 0) := by rw [hwr]; exact buf_cell _ _ _
        have hf : wr.frozen? ⟨w.heap.size, j, none⟩ = false := by rw [hwr]; exact buf_frozen _ _ _ _
        clear hwr
        have fin : ∀ v, v = dig m → (∃ (m' : Int) (i : Nat) (acc : List Int), Value.int .i64 (m.tdiv 10) = .int .i64 m' ∧ Value.int .i64 (j : Int) = .int .i64 i ∧ 5 ≤ i ∧ i ≤ 24 ∧ m'.natAbs < 10 ^ (i - 5) ∧ acc.length = 24 - i ∧ digs (i - 4) m' acc = digs 20 n [] ∧
            -9223372036854775808 ≤ m' ∧ m' ≤ 9223372036854775807 ∧ wr.setCell ⟨w.heap.size, j, none⟩ (.int .u8 v) = bufW w i acc) ∧ (intOf (.int .i64 (j : Int))).toNat < (intOf (.int .i64 ((j + 1 : Nat) : Int))).toNat := by
          rintro v rfl
          refine ⟨⟨m.tdiv 10, j, dig m :: acc, rfl, rfl, by omega, by omega, ?_, ?_, ?_, (tdiv_range hm1 hm2).1, (tdiv_range hm1 hm2).2, ?_⟩, by simp [intOf]⟩
          · have := HM.out
            rw [show j + 1 - 5 = (j - 5) + 1 by omega] at this
            exact pow_step m _ this
          · have := HA.out
            simp only [List.length_cons]; omega
          · rw [← HD.out, show j + 1 - 4 = (j - 4) + 1 by omega]
            simp [digs, hm0]
          · rw [HW.out]; exact buf_set _ _ _ _
        have FIN : Hid _ := fin
        clear fin
        go_wp2
        all_goals (refine FIN.out _ ?_; simp only [dig]; (first | rw [if_pos (by assumption)] | rw [if_neg (by omega)]))
theorem digs_len : ∀ (f : Nat) (n : Int) (acc : List Int), (digs f n acc).length ≤ f + acc.length
  | 0, _, _ => by simp [digs]
  | f + 1, n, acc => by
    rw [digs]
    split
    · omega
    · have := digs_len f (n.tdiv 10) (dig n :: acc)
      simp at this
      omega

theorem bytesL_size (l : List Int) : (bytesL l).size = l.length := by
  have : ∀ (l : List Int) (b : ByteArray), (l.foldl (fun r n => r.push (UInt8.ofNat n.toNat)) b).size = b.size + l.length := by
    intro l
    induction l with
    | nil => simp
    | cons x l ih => intro b; simp only [List.foldl_cons, ih, List.length_cons, ByteArray.size_push]; omega
  rw [bytesL, this]
  simp

theorem itoa_size (n : Int) : (itoa n).size ≤ 21 := by
  rw [itoa, bytesL_size, itoaL]
  have := digs_len 20 n []
  simp at this
  split
  · simp
  · split
    · simp; omega
    · omega

end Go.Proofs.Qxb6500374a.W
