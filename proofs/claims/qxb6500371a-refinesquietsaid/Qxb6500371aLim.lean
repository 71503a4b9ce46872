import Derived.Test.Qxb6500371aCac4
import Derived.Deep.QuietTactic
import Derived.BigQuiet
set_option linter.unusedVariables false
set_option linter.unusedSimpArgs false
namespace Go.Proofs.Qxb6500371a.W
open Go.RowKit Go.Maps

def tellLim (c : CS) (m : MS) : ByteArray := ((⟨#[108, 105, 109, 105, 116, 101, 100, 91, 109, 97, 120, 61]⟩ ++ itoa 2) ++ ⟨#[93, 32]⟩) ++ tellC c m

theorem keyS_size (c : CS) : (keyS c).size ≤ 50 := by
  have h1 := itoa_size c.key
  have h2 := itoa_size c.val
  have e : (⟨#[58]⟩ : ByteArray).size = 1 := rfl
  have e' : (⟨#[45]⟩ : ByteArray).size = 1 := rfl
  rw [keyS]
  split
  · simp only [ByteArray.size_append, e]; omega
  · rw [e']; omega

theorem tellC_size (c : CS) (m : MS) : (tellC c m).size ≤ 500 := by
  have h1 := itoa_size c.hits
  have h2 := keyS_size c
  have h3 := tellMem_size m
  have e1 : (⟨#[99, 97, 99, 104, 101, 100, 91, 104, 105, 116, 115, 61]⟩ : ByteArray).size = 12 := rfl
  have e2 : (⟨#[32, 107, 101, 121, 61]⟩ : ByteArray).size = 5 := rfl
  have e3 : (⟨#[93, 32]⟩ : ByteArray).size = 2 := rfl
  simp only [tellC, ByteArray.size_append, e1, e2, e3]
  omega

set_option maxHeartbeats 400000 in
set_option maxRecDepth 4000 in
theorem ltell_calls {w : World} {p pm mp : Nat} {c : CS} {m : MS} (h : CacAt w p pm c [.int .i64 2] 93) (hM : MemAt w pm mp m) (hc : c.ok) (hm : m.ok) :
    Calls Try.prog 131 #[.pointer (some ⟨p, 0, none⟩)] w fun x w' => x = .returned (.string (tellLim c m)) ∧ Chg [] w w' := by
  have c5 : w.cell? ⟨p, 5, none⟩ = some (.int .i64 2) := cell_of h rfl
  have H : Hid (CacAt w p pm c [.int .i64 2] 93) := h
  have HM : Hid (MemAt w pm mp m) := hM
  have HO : Hid c.ok := hc
  have HN : Hid m.ok := hm
  clear h hM hc hm
  go_enter Try.func131, Try.ntmps131
  go_wp2_with fail
  refine (itoa_calls 2 (by omega) (by omega) _).mono ?_
  rintro e w1 ⟨rfl, hc1⟩
  have HC1 : Hid (Chg [] w w1) := hc1
  clear hc1
  have s1 := itoa_size 2
  have s2 := tellC_size c m
  go_wp2_with fail
  refine (ctell_calls (H.out.chg HC1.out (by simp)) (HM.out.chg HC1.out (by simp) (by simp)) HO.out HN.out).mono ?_
  rintro e w2 ⟨rfl, hc2⟩
  have HC2 : Hid (Chg [] w1 w2) := hc2
  clear hc2
  go_wp2
  go_ret
  exact ⟨rfl, HC1.out.trans HC2.out⟩

theorem Chg.drewN {bs : List Nat} {a w : World} (h : Chg bs a w) (n : Nat) : Chg bs a (w.drewN n) := ⟨h.os, h.tape, h.output, h.size, h.block⟩

/-- A Put of a Limited. -/
def putLim (c : CS) (m : MS) (k v : Int) : Int × CS × MS := if (rowR m k).2.2 = 1 then (1, c, m) else if (rowR m k).2.2 = 2 ∧ 2 ≤ m.cnt then (3, c, m) else putC c m k v

set_option maxHeartbeats 1000000 in
set_option maxRecDepth 4000 in
theorem lput_calls {w : World} {p pm mp : Nat} {c : CS} {m : MS} (h : CacAt w p pm c [.int .i64 2] 93) (hM : MemAt w pm mp m) (h1 : p ≠ pm) (h2 : p ≠ mp) (k v : Int) (hk : i64ok k) :
    Calls Try.prog 130 #[.pointer (some ⟨p, 0, none⟩), .int .i64 k, .int .i64 v] w fun x w' => x = .returned (.int .i64 (putLim c m k v).1) ∧ CacAt w' p pm (putLim c m k v).2.1 [.int .i64 2] 93 ∧ MemAt w' pm mp (putLim c m k v).2.2 ∧ Chg [p, pm, mp] w w' := by
  have c0 : w.cell? ⟨p, 0, none⟩ = some (.pointer (some ⟨pm, 0, none⟩)) := cell_of h rfl
  have H : Hid (CacAt w p pm c [.int .i64 2] 93) := h
  have HM : Hid (MemAt w pm mp m) := hM
  clear h hM
  go_enter Try.func130, Try.ntmps130
  go_wp2_with fail
  refine (row_calls HM.out k hk).mono ?_
  rintro e w1 ⟨rfl, hc1⟩
  generalize hr : rowR m k = r
  obtain ⟨a, b, e⟩ := r
  have hc2 : Chg [] w (w1.alloc (.cells #[.int .i64 a, .int .i64 b] 104)) := hc1.alloc _
  have hA := H.out.chg hc1 (by simp)
  have hB := HM.out.chg hc1 (by simp) (by simp)
  have hp : p < w1.heap.size := (Array.getElem?_eq_some_iff.1 hA).1
  have hpm : pm < w1.heap.size := (Array.getElem?_eq_some_iff.1 hB.1).1
  have d0 : w1.cell? ⟨p, 0, none⟩ = some (.pointer (some ⟨pm, 0, none⟩)) := cell_of hA rfl
  have d5 : w1.cell? ⟨p, 5, none⟩ = some (.int .i64 2) := cell_of hA rfl
  have d4 : w1.cell? ⟨pm, 4, none⟩ = some (.map (some mp)) := cell_of hB.1 rfl
  have hl : ∀ n, (Builtin.len_ #[46] 3 #[.map (some mp)]).run Try.prog ((w1.alloc (.cells #[.int .i64 a, .int .i64 b] 104)).drewN n) = .ok (.int .i64 m.cnt) ((w1.alloc (.cells #[.int .i64 a, .int .i64 b] 104)).drewN n) :=
    fun n => HasAt.len (w := (w1.alloc (.cells #[.int .i64 a, .int .i64 b] 104)).drewN n) (HM.out.chg (bs := []) ⟨hc2.os, hc2.tape, hc2.output, hc2.size, hc2.block⟩ (by simp) (by simp)).2 3
  have HC2 : Hid (Chg [] w (w1.alloc (.cells #[.int .i64 a, .int .i64 b] 104))) := hc2
  have HR : Hid (rowR m k = (a, b, e)) := hr
  clear hc1 hc2 hA hB hr
  by_cases he1 : e = 1
  · subst he1
    go_wp2
    go_ret
    have e1 : putLim c m k v = (1, c, m) := by rw [putLim, HR.out, if_pos rfl]
    rw [e1]
    exact ⟨rfl, H.out.chg HC2.out (by simp), HM.out.chg HC2.out (by simp) (by simp), HC2.out.any⟩
  · have he1' : (e == 1) = false := by simpa using he1
    by_cases he2 : e = 2
    · subst he2
      by_cases hn : 2 ≤ m.cnt
      · have hd : decide ((2 : Int) ≤ (m.cnt : Int)) = true := by simp; omega
        go_wp2_with fail
        go_quiet (fail)
        go_wp2
        go_ret
        have e1 : putLim c m k v = (3, c, m) := by rw [putLim, HR.out, if_neg (by simp), if_pos ⟨rfl, hn⟩]
        rw [e1]
        have hz : Chg [] w ((w1.alloc (.cells #[.int .i64 a, .int .i64 b] 104)).drewN nq) := HC2.out.drewN nq
        exact ⟨rfl, H.out.chg hz (by simp), HM.out.chg hz (by simp) (by simp), hz.any⟩
      · have hd : decide ((2 : Int) ≤ (m.cnt : Int)) = false := by simp; omega
        go_wp2_with fail
        go_quiet (fail)
        go_wp2_with fail
        have hz : Chg [] w ((w1.alloc (.cells #[.int .i64 a, .int .i64 b] 104)).drewN nq) := HC2.out.drewN nq
        refine (cput_calls (H.out.chg hz (by simp)) (HM.out.chg hz (by simp) (by simp)) h1 h2 k v hk).mono ?_
        rintro x w2 ⟨rfl, g1, g2, g3⟩
        have e1 : putLim c m k v = putC c m k v := by rw [putLim, HR.out, if_neg he1, if_neg (by simp; omega)]
        have E1 : Hid (putLim c m k v = putC c m k v) := e1
        have G : Hid (CacAt w2 p pm (putC c m k v).2.1 [.int .i64 2] 93 ∧ MemAt w2 pm mp (putC c m k v).2.2 ∧ Chg [p, pm, mp] w w2) := ⟨g1, g2, hz.any.trans g3⟩
        clear g1 g2 g3 e1 hz
        go_wp2
        go_ret
        rw [E1.out]
        exact ⟨rfl, G.out⟩
    · have he2' : (e == 2) = false := by simpa using he2
      go_wp2_with fail
      go_quiet (fail)
      go_wp2_with fail
      have hz : Chg [] w ((w1.alloc (.cells #[.int .i64 a, .int .i64 b] 104)).drewN nq) := HC2.out.drewN nq
      refine (cput_calls (H.out.chg hz (by simp)) (HM.out.chg hz (by simp) (by simp)) h1 h2 k v hk).mono ?_
      rintro x w2 ⟨rfl, g1, g2, g3⟩
      have e1 : putLim c m k v = putC c m k v := by rw [putLim, HR.out, if_neg he1, if_neg (fun q => he2 q.1)]
      have E1 : Hid (putLim c m k v = putC c m k v) := e1
      have G : Hid (CacAt w2 p pm (putC c m k v).2.1 [.int .i64 2] 93 ∧ MemAt w2 pm mp (putC c m k v).2.2 ∧ Chg [p, pm, mp] w w2) := ⟨g1, g2, hz.any.trans g3⟩
      clear g1 g2 g3 e1 hz
      go_wp2
      go_ret
      rw [E1.out]
      exact ⟨rfl, G.out⟩
end Go.Proofs.Qxb6500371a.W
