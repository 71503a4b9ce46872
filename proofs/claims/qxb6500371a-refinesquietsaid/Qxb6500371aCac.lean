import Derived.Test.Qxb6500371aLg
set_option linter.unusedVariables false
set_option linter.unusedSimpArgs false
namespace Go.Proofs.Qxb6500371a.W
open Go.RowKit Go.Maps

/-- A Cached, plainly. -/
structure CS where
  hits : Int
  key : Int
  val : Int
  full : Bool

/-- Block p begins with a Cached's five cells (a Limited has a sixth). -/
def CacAt (w : World) (p pm : Nat) (c : CS) (tail : List Value) (t : TypeId) : Prop :=
  w.heap[p]? = some (.cells ((.pointer (some ⟨pm, 0, none⟩) :: .int .i64 c.hits :: .int .i64 c.key :: .int .i64 c.val :: .bool c.full :: tail).toArray) t (0, 0))

theorem CacAt.chg {w w' : World} {bs : List Nat} {p pm : Nat} {c : CS} {tail : List Value} {t : TypeId} (h : CacAt w p pm c tail t) (hc : Chg bs w w') (hn : p ∉ bs) : CacAt w' p pm c tail t := hc.keep h hn

def keepC (c : CS) (a b e : Int) : CS := if e = 0 then { c with key := a, val := b, full := true } else c
def forgetC (c : CS) (k : Int) : CS := if k = c.key then { c with full := false } else c

set_option maxHeartbeats 400000 in
set_option maxRecDepth 4000 in
theorem forget_calls {w : World} {p pm : Nat} {c : CS} {tail : List Value} {t : TypeId} (h : CacAt w p pm c tail t) (k : Int) :
    Calls Try.prog 128 #[.pointer (some ⟨p, 0, none⟩), .int .i64 k] w fun e w' => e = .returned (.tuple #[]) ∧ CacAt w' p pm (forgetC c k) tail t ∧ Chg [p] w w' := by
  have c2 : w.cell? ⟨p, 2, none⟩ = some (.int .i64 c.key) := cell_of h rfl
  have c4 : w.cell? ⟨p, 4, none⟩ = some (.bool c.full) := cell_of h rfl
  have f4 : w.frozen? ⟨p, 4, none⟩ = false := frozen_of h
  have H : Hid (CacAt w p pm c tail t) := h
  clear h
  by_cases hk : k = c.key
  · rw [forgetC, if_pos hk]
    have HK : Hid (k = c.key) := hk
    have hk' : (k == c.key) = true := by simpa using hk
    clear hk
    go_enter Try.func128, Try.ntmps128
    go_wp2
    go_end0
    refine ⟨rfl, ?_, (Chg.refl _ _).setCell (Or.inl (by simp)) _⟩
    have := heap_setCell_same w p 4 _ _ (.bool false) H.out
    rw [CacAt, this]
    simp
  · rw [forgetC, if_neg hk]
    have hk' : (k == c.key) = false := by simpa using hk
    go_enter Try.func128, Try.ntmps128
    go_wp2
    go_end0
    exact ⟨rfl, H.out, Chg.refl _ _⟩

set_option maxHeartbeats 400000 in
set_option maxRecDepth 4000 in
theorem keep_calls {w : World} {p pm : Nat} {c : CS} {tail : List Value} {t : TypeId} (h : CacAt w p pm c tail t) (a b e : Int) :
    Calls Try.prog 129 #[.pointer (some ⟨p, 0, none⟩), .agg #[.int .i64 a, .int .i64 b], .int .i64 e] w fun x w' => x = .returned (.tuple #[.int .i64 b, .int .i64 e]) ∧ CacAt w' p pm (keepC c a b e) tail t ∧ Chg [p] w w' := by
  have hp : p < w.heap.size := (Array.getElem?_eq_some_iff.1 h).1
  have c2 : w.cell? ⟨p, 2, none⟩ = some (.int .i64 c.key) := cell_of h rfl
  have c3 : w.cell? ⟨p, 3, none⟩ = some (.int .i64 c.val) := cell_of h rfl
  have c4 : w.cell? ⟨p, 4, none⟩ = some (.bool c.full) := cell_of h rfl
  have f2 : w.frozen? ⟨p, 2, none⟩ = false := frozen_of h
  have f3 : w.frozen? ⟨p, 3, none⟩ = false := frozen_of h
  have f4 : w.frozen? ⟨p, 4, none⟩ = false := frozen_of h
  have H : Hid (CacAt w p pm c tail t) := h
  clear h
  by_cases he : e = 0
  · subst he
    rw [keepC, if_pos rfl]
    go_enter Try.func129, Try.ntmps129
    go_wp2
    go_ret2
    refine ⟨rfl, ?_, ?_⟩
    · have g1 := heap_setCell_same w p 2 _ _ (.int .i64 a) H.out
      have g2 := heap_setCell_same _ p 3 _ _ (.int .i64 b) g1
      have g3 := heap_setCell_same _ p 4 _ _ (.bool true) g2
      refine Chg.keep (bs := []) ((Chg.refl _ _).alloc _) (o := _) ?_ (by simp)
      rw [g3]
      simp
    · exact ((((Chg.refl _ _).setCell (Or.inl (by simp)) _).setCell (Or.inl (by simp)) _).setCell (Or.inl (by simp)) _).alloc _
  · rw [keepC, if_neg he]
    have he' : (e == 0) = false := by simpa using he
    go_enter Try.func129, Try.ntmps129
    go_wp2
    go_ret2
    exact ⟨rfl, H.out.chg (bs := []) ((Chg.refl _ _).alloc _) (by simp), (Chg.refl _ _).alloc _⟩

/-- A Get of a Cached: value, error, the Cached behind it. -/
def getC (c : CS) (m : MS) (k : Int) : Int × Int × CS :=
  if c.full = true ∧ k = c.key then (c.val, 0, { c with hits := wrap64 (c.hits + 1) }) else ((rowR m k).2.1, (rowR m k).2.2, keepC c (rowR m k).1 (rowR m k).2.1 (rowR m k).2.2)

set_option maxHeartbeats 400000 in
set_option maxRecDepth 4000 in
theorem cget_calls {w : World} {p pm mp : Nat} {c : CS} {m : MS} {tail : List Value} {t : TypeId} (h : CacAt w p pm c tail t) (hM : MemAt w pm mp m) (k : Int) (hk : i64ok k) :
    Calls Try.prog 123 #[.pointer (some ⟨p, 0, none⟩), .int .i64 k] w fun x w' => x = .returned (.tuple #[.int .i64 (getC c m k).1, .int .i64 (getC c m k).2.1]) ∧ CacAt w' p pm (getC c m k).2.2 tail t ∧ Chg [p] w w' := by
  have c0 : w.cell? ⟨p, 0, none⟩ = some (.pointer (some ⟨pm, 0, none⟩)) := cell_of h rfl
  have c1 : w.cell? ⟨p, 1, none⟩ = some (.int .i64 c.hits) := cell_of h rfl
  have c2 : w.cell? ⟨p, 2, none⟩ = some (.int .i64 c.key) := cell_of h rfl
  have c3 : w.cell? ⟨p, 3, none⟩ = some (.int .i64 c.val) := cell_of h rfl
  have c4 : w.cell? ⟨p, 4, none⟩ = some (.bool c.full) := cell_of h rfl
  have f1 : w.frozen? ⟨p, 1, none⟩ = false := frozen_of h
  have H : Hid (CacAt w p pm c tail t) := h
  have HM : Hid (MemAt w pm mp m) := hM
  clear h hM
  by_cases hc : c.full = true ∧ k = c.key
  · rw [getC, if_pos hc]
    obtain ⟨hf, hk1⟩ := hc
    rw [hf] at c4
    have hk' : (k == c.key) = true := by simpa using hk1
    clear hk1
    go_enter Try.func123, Try.ntmps123
    go_wp2
    go_ret2
    refine ⟨rfl, ?_, (Chg.refl _ _).setCell (Or.inl (by simp)) _⟩
    have := heap_setCell_same w p 1 _ _ (.int .i64 (wrap64 (c.hits + 1))) H.out
    rw [CacAt, this]
    simp
  · rw [getC, if_neg hc]
    go_enter Try.func123, Try.ntmps123
    cases hf : c.full with
    | false =>
      rw [hf] at c4
      go_wp2_with fail
      refine (row_calls HM.out k hk).mono ?_
      rintro e w1 ⟨rfl, hc1⟩
      have h1 : CacAt w1 p pm c tail t := H.out.chg hc1 (by simp)
      have HC1 : Hid (Chg [] w w1) := hc1
      have HK : Hid (CacAt w1 p pm c tail t) := h1
      clear hc1 h1
      go_wp2_with fail
      refine (keep_calls HK.out _ _ _).mono ?_
      rintro e w2 ⟨rfl, h2, hc2⟩
      have H2 : Hid (CacAt w2 p pm (keepC c (rowR m k).1 (rowR m k).2.1 (rowR m k).2.2) tail t) := h2
      have HC2 : Hid (Chg [p] w1 w2) := hc2
      clear h2 hc2
      go_wp2
      go_ret2
      exact ⟨rfl, H2.out, HC1.out.any.trans HC2.out⟩
    | true =>
      rw [hf] at c4
      have hk' : (k == c.key) = false := by
        simp only [hf, true_and] at hc
        simpa using hc
      clear hc
      go_wp2_with fail
      refine (row_calls HM.out k hk).mono ?_
      rintro e w1 ⟨rfl, hc1⟩
      have h1 : CacAt w1 p pm c tail t := H.out.chg hc1 (by simp)
      have HC1 : Hid (Chg [] w w1) := hc1
      have HK : Hid (CacAt w1 p pm c tail t) := h1
      clear hc1 h1
      go_wp2_with fail
      refine (keep_calls HK.out _ _ _).mono ?_
      rintro e w2 ⟨rfl, h2, hc2⟩
      have H2 : Hid (CacAt w2 p pm (keepC c (rowR m k).1 (rowR m k).2.1 (rowR m k).2.2) tail t) := h2
      have HC2 : Hid (Chg [p] w1 w2) := hc2
      clear h2 hc2
      go_wp2
      go_ret2
      exact ⟨rfl, H2.out, HC1.out.any.trans HC2.out⟩
end Go.Proofs.Qxb6500371a.W
