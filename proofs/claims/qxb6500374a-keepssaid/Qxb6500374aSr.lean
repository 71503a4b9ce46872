import Derived.Test.Qxb6500374aRe
import Derived.Test.Qxb6500374aItoa
import Derived.Test.Qxb6500374aSorted
set_option linter.unusedVariables false
set_option linter.unusedSimpArgs false
namespace Go.Proofs.Qxb6500374a.W
open Go.RowKit Go.Maps

theorem strict_ext : ∀ {l t : List Nat}, l.Pairwise (· < ·) → t.Pairwise (· < ·) → (∀ x, x ∈ l ↔ x ∈ t) → l = t
  | [], [], _, _, _ => rfl
  | [], b :: t, _, _, h => by have := (h b).2 (by simp); cases this
  | a :: l, [], _, _, h => by have := (h a).1 (by simp); cases this
  | a :: l, b :: t, h1, h2, h => by
    rw [List.pairwise_cons] at h1 h2
    have hab : a = b := by
      rcases List.mem_cons.1 ((h a).1 (by simp)) with e | e
      · exact e
      · rcases List.mem_cons.1 ((h b).2 (by simp)) with e2 | e2
        · exact e2.symm
        · have := h1.1 b e2
          have := h2.1 a e
          omega
    subst hab
    rw [strict_ext h1.2 h2.2 (fun x => ?_)]
    constructor
    · intro hx
      have := h1.1 x hx
      rcases List.mem_cons.1 ((h x).1 (List.mem_cons_of_mem _ hx)) with e | e
      · omega
      · exact e
    · intro hx
      have := h2.1 x hx
      rcases List.mem_cons.1 ((h x).2 (List.mem_cons_of_mem _ hx)) with e | e
      · omega
      · exact e

theorem swo_ltI : Sort.SWO Sorted.ltI := ⟨fun x => by simp [Sorted.ltI], fun x y z h1 h2 => by simp [Sorted.ltI] at *; omega, fun x y z h1 h2 => by simp [Sorted.ltI] at *; omega⟩

def arr (l : List Nat) : Array Int := (l.map (fun x : Nat => (x : Int))).toArray

theorem sort_arr {l t : List Nat} (hl : l.Nodup) (ht : t.Pairwise (· < ·)) (hm : ∀ x, x ∈ l ↔ x ∈ t) : Sort.insertionSort Sorted.ltI (arr l) 0 (arr l).size = arr t := by
  obtain ⟨⟨hsz, _, hperm⟩, hs⟩ := Sort.insertionSort_holds swo_ltI (arr l) 0 (arr l).size (Nat.zero_le _) (Nat.le_refl _)
  generalize Sort.insertionSort Sorted.ltI (arr l) 0 (arr l).size = d at *
  have hp : d.toList.Perm (arr l).toList := by
    have e1 : d.extract 0 (arr l).size = d := by rw [← hsz]; simp
    have e2 : (arr l).extract 0 (arr l).size = arr l := by simp
    rw [e1, e2] at hperm
    exact hperm
  have hnat : ∀ x ∈ d.toList, x = ((x.toNat : Nat) : Int) := by
    intro x hx
    have := hp.mem_iff.1 hx
    simp [arr] at this
    obtain ⟨a, _, rfl⟩ := this
    simp
  have hmap : d.toList = (d.toList.map Int.toNat).map (fun x : Nat => (x : Int)) := by
    rw [List.map_map]
    conv => lhs; rw [← List.map_id d.toList]
    apply List.map_congr_left
    intro x hx
    exact hnat x hx
  have hp2 : (d.toList.map Int.toNat).Perm l := by
    have := hp.map Int.toNat
    simpa [arr, List.map_map, Function.comp_def] using this
  have hnd : (d.toList.map Int.toNat).Nodup := hp2.nodup_iff.2 hl
  have hst : (d.toList.map Int.toNat).Pairwise (· < ·) := by
    rw [List.pairwise_iff_getElem]
    intro i j hi hj hij
    simp only [List.length_map, Array.length_toList] at hi hj
    have hle := hs i j (Nat.zero_le _) hij (by omega)
    have hne : (d.toList.map Int.toNat)[i]'(by simpa using hi) ≠ (d.toList.map Int.toNat)[j]'(by simpa using hj) := by
      intro e
      have := (List.getElem_inj (h₀ := by simpa using hi) (h₁ := by simpa using hj) hnd).1 e
      omega
    simp only [List.getElem_map, Array.getElem_toList] at hne ⊢
    rw [getElem!_pos d i hi, getElem!_pos d j hj] at hle
    simp [Sorted.ltI] at hle
    omega
  have := strict_ext hst ht (fun x => by rw [hp2.mem_iff]; exact hm x)
  apply Array.ext'
  rw [hmap, this]
  rfl

theorem mapBlock_heap {w : World} {b : Nat} {f : Array Value → Array Value} {cur : Array Value} {t : TypeId} (h : w.heap[b]? = some (.cells cur t (0, 0))) : (Sort.mapBlock w b f).heap[b]? = some (.cells (f cur) t (0, 0)) := by
  simp [Sort.mapBlock, Array.getElem?_modify, h, Sort.onCells]
theorem mapBlock_other {w : World} {b k : Nat} {f : Array Value → Array Value} (h : k ≠ b) : (Sort.mapBlock w b f).heap[k]? = w.heap[k]? := by
  simp [Sort.mapBlock, Array.getElem?_modify, Ne.symm h]

theorem arr_get {l : List Nat} {i : Nat} (hi : i < l.length) : (arr l)[i]! = (l[i] : Int) := by
  rw [getElem!_pos _ i (by simpa [arr] using hi)]
  simp [arr]

theorem sortedR_calls {w : World} {b cap : Nat} {l t : List Nat} (h : RowAt w b l cap) (hlt : l.length < 100) (hl : l.Nodup) (ht : t.Pairwise (· < ·)) (hm : ∀ x, x ∈ l ↔ x ∈ t) :
    Calls Try.prog 43 #[.slice (some ⟨b, 0, none⟩) l.length cap] w fun e w' => e = .returned (.slice (some ⟨b, 0, none⟩) l.length cap) ∧ RowAt w' b t cap ∧ Chg [b] w w' := by
  have hsz : (arr l).size = l.length := by simp [arr]
  have hlen : t.length = l.length := by
    have h1 := nodup_sub_length hl (fun x hx => (hm x).1 hx)
    have h2 := nodup_sub_length (l := t) (ht.imp (fun hab => by omega)) (fun x hx => (hm x).2 hx)
    omega
  have hH : Sort.Holds (Value.int .i64) w b 0 (arr l) := by
    intro j hj
    rw [hsz] at hj
    obtain ⟨cur, h1, _⟩ := h
    refine ⟨?_, frozen_of h1⟩
    rw [arr_get hj, Nat.zero_add]
    exact RowAt.cell ⟨cur, h1, by assumption⟩ hj
  have := Sorted.sorted_calls b 0 cap (arr l) w hH (by omega)
  rw [hsz] at this
  refine this.mono ?_
  rintro e w' ⟨rfl, n, rfl⟩
  have hsa := sort_arr hl ht hm
  rw [hsz] at hsa
  rw [hsa]
  refine ⟨rfl, ?_, ?_⟩
  · obtain ⟨cur, h1, h2, h3, h4, h5⟩ := h
    refine ⟨Sort.putCells (Value.int .i64) 0 (arr t) cur, mapBlock_heap (w := Sort.ahead w n) h1, by omega, h3, by simp [Sort.putCells, h4], ?_⟩
    apply List.ext_getElem?
    intro i
    by_cases hi : i < t.length
    · rw [List.getElem?_take_of_lt hi]
      have hic : i < cur.size := by omega
      simp only [Sort.putCells, Array.getElem?_toList, Array.getElem?_mapIdx, Array.getElem?_eq_getElem hic, Option.map_some, List.getElem?_map, List.getElem?_eq_getElem hi]
      rw [if_pos (by simp [arr]; exact hi), Nat.sub_zero, arr_get hi]
      rfl
    · rw [List.getElem?_eq_none (by simp; omega), List.getElem?_eq_none (by simp; omega)]
  · exact ⟨rfl, rfl, rfl, by simp [Sort.putRow, Sort.mapBlock, Sort.ahead], fun k hk hn => mapBlock_other (w := Sort.ahead w n) (by simpa using hn)⟩

/-- 'n,n,..', the first j. -/
def joinT (l : List Nat) : Nat → ByteArray
  | 0 => ⟨#[]⟩
  | j + 1 => (if 0 < j then joinT l j ++ ⟨#[44]⟩ else joinT l j) ++ itoa (l.getD j 0 : Nat)
theorem joinT_size (l : List Nat) (j : Nat) : (joinT l j).size ≤ 22 * j := by
  induction j with
  | zero => simp [joinT]; decide
  | succ j ih =>
    have h1 := itoa_size (l.getD j 0 : Nat)
    have e1 : (⟨#[44]⟩ : ByteArray).size = 1 := rfl
    rw [joinT]
    split <;> simp only [ByteArray.size_append, e1] <;> omega
def joinS (l : List Nat) : ByteArray := joinT l l.length

set_option maxHeartbeats 1000000 in
set_option maxRecDepth 4000 in
theorem join_calls {w : World} {lp : Option Addr} {cap : Nat} {l : List Nat} (h : l = [] ∨ ∃ b, lp = some ⟨b, 0, none⟩ ∧ RowAt w b l cap) (hl : l.length < 100) (h8 : ∀ x ∈ l, x < 100) :
    Calls Try.prog 42 #[.slice lp l.length cap] w fun e w' => e = .returned (.string (joinS l)) ∧ Chg [] w w' := by
  have H : Hid (l = [] ∨ ∃ b, lp = some ⟨b, 0, none⟩ ∧ RowAt w b l cap) := h
  have H8 : Hid (∀ x ∈ l, x < 100) := h8
  clear h h8
  go_enter Try.func42, Try.ntmps42
  go_wp2_with fail
  go_loopw [3, 8] (fun v3 v8 wr => ∃ j : Nat, j ≤ l.length ∧ v8 = .int .i64 j ∧ v3 = .string (joinT l j) ∧ Chg [] w wr) (fun _ v8 _ => ((l.length : Int) - intOf v8).toNat)
  case atStart => exact ⟨0, Nat.zero_le _, rfl, rfl, Chg.refl _ _⟩
  case round =>
    obtain ⟨j, hj, rfl, rfl, hc⟩ := hrel
    have HC : Hid (Chg [] w wr) := hc
    clear hc
    by_cases hjl : j < l.length
    · have d1 : decide (j < l.length) = true := by simpa using hjl
      rcases H.out with h0 | ⟨b, rfl, hrow⟩
      · rw [h0] at hjl; simp at hjl
      · have hcell := (hrow.chg HC.out (by simp)).cell hjl
        have hb := H8.out (l[j]) (List.getElem_mem hjl)
        have eg : l.getD j 0 = l[j] := by simp [List.getD_eq_getElem?_getD, List.getElem?_eq_getElem hjl]
        have EG : Hid (l.getD j 0 = l[j]) := eg
        clear eg hrow
        by_cases hj0 : 0 < j
        · have E : Hid (joinT l (j + 1) = (joinT l j ++ ⟨#[44]⟩) ++ itoa (l[j] : Nat)) := by show joinT l (j + 1) = _; rw [joinT, if_pos hj0, EG.out]
          have sz := joinT_size l j
          have s2 := itoa_size (l[j] : Nat)
          generalize l[j] = m at *
          generalize joinT l j = sj at *
          go_wp2_with fail
          refine (itoa_calls m (by omega) (by omega) _).mono ?_
          rintro x w2 ⟨rfl, hc2⟩
          have HC2 : Hid (Chg [] w w2) := HC.out.trans hc2
          clear hc2 hcell
          go_wp2
          exact ⟨⟨j + 1, by omega, by simp, by rw [E.out], HC2.out⟩, by simp [intOf]; omega⟩
        · obtain rfl : j = 0 := by omega
          have E : Hid (joinT l (0 + 1) = joinT l 0 ++ itoa (l[0] : Nat)) := by show (if 0 < 0 then joinT l 0 ++ ⟨#[44]⟩ else joinT l 0) ++ itoa (l.getD 0 0 : Nat) = _; rw [if_neg (by omega), EG.out]
          have sz := joinT_size l 0
          have s2 := itoa_size (l[0] : Nat)
          generalize l[0] = m at *
          generalize joinT l 0 = sj at *
          go_wp2_with fail
          refine (itoa_calls m (by omega) (by omega) _).mono ?_
          rintro x w2 ⟨rfl, hc2⟩
          have HC2 : Hid (Chg [] w w2) := HC.out.trans hc2
          clear hc2 hcell
          go_wp2
          exact ⟨⟨0 + 1, by omega, by simp, by rw [E.out], HC2.out⟩, by simp [intOf]; omega⟩
    · have d1 : decide (j < l.length) = false := by simpa using hjl
      obtain rfl : j = l.length := by omega
      generalize hq : joinT l l.length = q
      have HQ : Hid (joinS l = q) := hq
      clear hq
      go_wp2
      go_ret
      rw [HQ.out]
      exact ⟨rfl, HC.out⟩
end Go.Proofs.Qxb6500374a.W
