import Derived.Test.Qxb6500371aCh6
import Derived.Test.Qxb6500371aNew
import Derived.Test.Qxb6500371aChk
set_option linter.unusedVariables false
set_option linter.unusedSimpArgs false
namespace Go.Proofs.Qxb6500371a.W
open Go.RowKit Go.Maps

structure OpD where
  kind : Int
  a : Int
  b : Int
  c : Int
  s : ByteArray
  t : ByteArray
structure AnsD where
  e : Int
  n : Int
  m : Int
  s : ByteArray
abbrev opV (o : OpD) : Value := .agg #[.int .i64 o.kind, .int .i64 o.a, .int .i64 o.b, .int .i64 o.c, .string o.s, .string o.t]
abbrev ansCells (e n m : Int) (s : ByteArray) : Array Value := #[.int .i64 e, .int .i64 n, .int .i64 m, .string s]
def ansV (r : AnsD) : Value := .agg (ansCells r.e r.n r.m r.s)

def OpD.ok (o : OpD) : Prop := i64ok o.a ∧ i64ok o.b

/-- Do, plainly. q: where a new layer comes to lie. -/
def doR (q : Nat) (S : RS) (o : OpD) : AnsD × RS :=
  if o.kind = 1 then (⟨wrapE S o.a, 0, 0, ⟨#[]⟩⟩, wrapS q S o.a)
  else if o.kind = 2 then (⟨(getL S.ls S.m o.a).2.1, (getL S.ls S.m o.a).1, 0, ⟨#[]⟩⟩, getS S o.a)
  else if o.kind = 3 then (⟨(putL S.ls S.m o.a o.b).1, 0, 0, ⟨#[]⟩⟩, putS S o.a o.b)
  else if o.kind = 4 then (⟨(delL S.ls S.m o.a).1, 0, 0, ⟨#[]⟩⟩, delS S o.a)
  else if o.kind = 12 then (⟨0, 0, 0, ⟨#[]⟩⟩, clearS S)
  else if o.kind = 5 then (⟨0, S.m.cnt, 0, ⟨#[]⟩⟩, S)
  else if o.kind = 6 then (⟨0, 0, 0, nameL S.ls⟩, S)
  else if o.kind = 7 then (⟨(hitsL S.ls).2, (hitsL S.ls).1, 0, ⟨#[]⟩⟩, S)
  else if o.kind = 8 then (⟨0, 0, 0, ⟨#[]⟩⟩, holdS S)
  else if o.kind = 9 then (⟨(heldGetR S o.a).2.1, (heldGetR S o.a).1, 0, ⟨#[]⟩⟩, (heldGetR S o.a).2.2)
  else if o.kind = 13 then (⟨(heldPutR S o.a o.b).1, 0, 0, ⟨#[]⟩⟩, (heldPutR S o.a o.b).2)
  else if o.kind = 14 then (⟨(sinceR S).2, (sinceR S).1, 0, ⟨#[]⟩⟩, S)
  else if o.kind = 10 then (⟨0, 0, 0, showR S⟩, S)
  else if o.kind = 11 then (⟨0, 1, 0, ⟨#[]⟩⟩, S)
  else (⟨0, 0, 0, ⟨#[]⟩⟩, S)

/-- The three new blocks of Do (and of Owes): the step, the result, the answer. -/
def doW (w : World) (o : OpD) : World := ((w.alloc (.cells #[.int .i64 o.kind, .int .i64 o.a, .int .i64 o.b, .int .i64 o.c, .string o.s, .string o.t] 27)).alloc (.cells (ansCells 0 0 0 ⟨#[]⟩) 30)).alloc (.cells (ansCells 0 0 0 ⟨#[]⟩) 30)

theorem doW_chg (w : World) (o : OpD) (bs : List Nat) : Chg bs w (doW w o) := (((Chg.refl _ _).alloc _).alloc _).alloc _
theorem doW_size (w : World) (o : OpD) : (doW w o).heap.size = w.heap.size + 3 := by simp [doW]
theorem doW_a (w : World) (o : OpD) : (doW w o).heap[w.heap.size + 2]? = some (.cells (ansCells 0 0 0 ⟨#[]⟩) 30 (0, 0)) := by
  have := heap_alloc_new ((w.alloc (.cells #[.int .i64 o.kind, .int .i64 o.a, .int .i64 o.b, .int .i64 o.c, .string o.s, .string o.t] 27)).alloc (.cells (ansCells 0 0 0 ⟨#[]⟩) 30)) (.cells (ansCells 0 0 0 ⟨#[]⟩) 30)
  have e : ((w.alloc (.cells #[.int .i64 o.kind, .int .i64 o.a, .int .i64 o.b, .int .i64 o.c, .string o.s, .string o.t] 27)).alloc (.cells (ansCells 0 0 0 ⟨#[]⟩) 30)).heap.size = w.heap.size + 2 := by simp
  rw [e] at this
  exact this
theorem doW_r (w : World) (o : OpD) : (doW w o).heap[w.heap.size + 1]? = some (.cells (ansCells 0 0 0 ⟨#[]⟩) 30 (0, 0)) := by
  have := heap_alloc_new (w.alloc (.cells #[.int .i64 o.kind, .int .i64 o.a, .int .i64 o.b, .int .i64 o.c, .string o.s, .string o.t] 27)) (.cells (ansCells 0 0 0 ⟨#[]⟩) 30)
  have e : (w.alloc (.cells #[.int .i64 o.kind, .int .i64 o.a, .int .i64 o.b, .int .i64 o.c, .string o.s, .string o.t] 27)).heap.size = w.heap.size + 1 := by simp
  rw [e] at this
  exact Chg.keep (bs := []) ((Chg.refl _ _).alloc _) this (by simp)

theorem doW_keep {w w2 : World} {o : OpD} {px pm mp : Nat} {S : RS} (h : ChainAt w px pm mp S) (hc : Chg (px :: bl pm mp S.ls) (doW w o) w2) :
    w2.heap[w.heap.size + 1 + 1]? = some (.cells (ansCells 0 0 0 ⟨#[]⟩) 30 (0, 0)) ∧ w2.heap[w.heap.size + 1]? = some (.cells (ansCells 0 0 0 ⟨#[]⟩) 30 (0, 0)) := by
  have hlt := h.lt
  exact ⟨hc.keep (doW_a w o) (fun hx => by have := hlt _ hx; omega), hc.keep (doW_r w o) (fun hx => by have := hlt _ hx; omega)⟩

theorem Stp.fin {w w2 w3 : World} {o : OpD} {px pm mp : Nat} {S S' : RS} (h : ChainAt w px pm mp S) (hs : Stp px pm mp S S' (doW w o) w2) (hc : Chg [w.heap.size + 1 + 1, w.heap.size + 1] w2 w3) : Stp px pm mp S S' w w3 := by
  have hlt := h.lt
  have hpx := hlt px (by simp)
  have hbl : ∀ x ∈ bl pm mp S'.ls, x < w.heap.size ∨ w.heap.size + 3 ≤ x := by
    intro x hx
    rcases hs.blk x hx with e | e
    · exact Or.inl (hlt x (by simp [e]))
    · rw [doW_size] at e; exact Or.inr e
  refine ⟨hs.at_.chg hc ?_, ?_, ?_⟩
  · intro x hx hm
    simp only [List.mem_cons, List.not_mem_nil, or_false] at hm
    rcases List.mem_cons.1 hx with rfl | hx
    · omega
    · have := hbl x hx; omega
  · have h1 : Chg (px :: bl pm mp S.ls) w w2 := (doW_chg w o _).trans hs.chg
    refine ⟨hc.os.trans h1.os, hc.tape.trans h1.tape, hc.output.trans h1.output, Nat.le_trans h1.size hc.size, fun k hk hn => ?_⟩
    rw [hc.block k (Nat.lt_of_lt_of_le hk h1.size) (by simp; omega)]
    exact h1.block k hk hn
  · intro x hx
    rcases hs.blk x hx with e | e
    · exact Or.inl e
    · rw [doW_size] at e; exact Or.inr (by omega)

theorem Stp.same0 {w : World} {px pm mp : Nat} {S : RS} (h : ChainAt w px pm mp S) : Stp px pm mp S S w w := Stp.same h (Chg.refl _ _)

/-- What a body that lays its answer into block A and hands it back through block R leaves. -/
theorem ans_row {w2 : World} {A R : Nat} (hAR : A ≠ R) (hA : w2.heap[A]? = some (.cells (ansCells 0 0 0 ⟨#[]⟩) 30 (0, 0))) (hR : w2.heap[R]? = some (.cells (ansCells 0 0 0 ⟨#[]⟩) 30 (0, 0))) {w1 : World} (hc : Chg [A] w2 w1) (e n m : Value) (s : Value) :
    ((((w1.setCell ⟨R, 0, none⟩ e).setCell ⟨R, 1, none⟩ n).setCell ⟨R, 2, none⟩ m).setCell ⟨R, 3, none⟩ s).heap[R]? = some (.cells #[e, n, m, s] 30 (0, 0)) := by
  have g0 : w1.heap[R]? = some (.cells (ansCells 0 0 0 ⟨#[]⟩) 30 (0, 0)) := hc.keep hR (by simpa using hAR.symm)
  have g1 := heap_setCell_same _ R 0 _ _ e g0
  have g2 := heap_setCell_same _ R 1 _ _ n g1
  have g3 := heap_setCell_same _ R 2 _ _ m g2
  have g4 := heap_setCell_same _ R 3 _ _ s g3
  rw [g4]
  simp

theorem ans_chg {w2 w1 : World} {A R : Nat} (hc : Chg [A] w2 w1) (e n m s : Value) : Chg [A, R] w2 ((((w1.setCell ⟨R, 0, none⟩ e).setCell ⟨R, 1, none⟩ n).setCell ⟨R, 2, none⟩ m).setCell ⟨R, 3, none⟩ s) :=
  (((((hc.mono (by simp)).setCell (Or.inl (by simp)) _).setCell (Or.inl (by simp)) _).setCell (Or.inl (by simp)) _).setCell (Or.inl (by simp)) _)

theorem do_ret {tmps : Array Value} {w3 : World} {R : Nat} {e n m : Int} {s : ByteArray} {Q : Ending → World → Prop} (hp : tmps.getD 4 undef = .pointer (some ⟨R, 0, none⟩)) (hr : w3.heap[R]? = some (.cells (ansCells e n m s) 30 (0, 0)))
    (h : Q (.returned (ansV ⟨e, n, m, s⟩)) w3) : bodyPost Try.prog Try.f43 Q Exit.ret { tmps := tmps, defers := [] } w3 :=
  bodyPost_ret (results_cell_row rfl _ _ R 30 _ (0, 0) _ hp hr Try.underlying30 rfl (by kernel_rfl)) rfl h

set_option maxHeartbeats 4000000 in
set_option maxRecDepth 4000 in
theorem do_wrap {w : World} {px pm mp : Nat} {S : RS} (h : ChainAt w px pm mp S) (ho : S.ok) (hz : S.m.zero) (hky : ∀ x ∈ S.ls, x.keyed S.m) (o : OpD) (hoo : o.ok) (hk : o.kind = 1) :
    Calls Try.prog 43 #[pt px, opV o] w fun x w' => x = .returned (ansV (doR (w.heap.size + 3) S o).1) ∧ Stp px pm mp S (doR (w.heap.size + 3) S o).2 w w' := by
  have H : Hid (ChainAt w px pm mp S) := h
  have HO : Hid S.ok := ho
  have HZ : Hid S.m.zero := hz
  have HY : Hid (∀ x ∈ S.ls, x.keyed S.m) := hky
  obtain ⟨kind, a, b, c, s, t⟩ := o
  simp only at hk
  subst hk
  have HP : Hid (i64ok a ∧ i64ok b) := hoo
  have H0 : Hid (ChainAt (doW w ⟨1, a, b, c, s, t⟩) px pm mp S) := h.chg (doW_chg _ _ []) (by simp)
  clear h ho hz hky hoo
  unfold opV
  go_enter Try.func43, Try.ntmps43
  go_wp2_with fail
  refine (xwrap_calls (w := doW w ⟨1, a, b, c, s, t⟩) H0.out HO.out.len HO.out.hld a).mono ?_
  rintro x w2 ⟨rfl, hst⟩
  have hs : Stp px pm mp S (wrapS (doW w ⟨1, a, b, c, s, t⟩).heap.size S a) (doW w ⟨1, a, b, c, s, t⟩) w2 := hst
  have hkp := doW_keep H.out hs.chg
  have a0 : w2.cell? ⟨w.heap.size + 1 + 1, 0, none⟩ = some (.int .i64 0) := cell_of hkp.1 rfl
  have a1 : w2.cell? ⟨w.heap.size + 1 + 1, 1, none⟩ = some (.int .i64 0) := cell_of hkp.1 rfl
  have a2 : w2.cell? ⟨w.heap.size + 1 + 1, 2, none⟩ = some (.int .i64 0) := cell_of hkp.1 rfl
  have a3 : w2.cell? ⟨w.heap.size + 1 + 1, 3, none⟩ = some (.string ⟨#[]⟩) := cell_of hkp.1 rfl
  have r0 : w2.cell? ⟨w.heap.size + 1, 0, none⟩ = some (.int .i64 0) := cell_of hkp.2 rfl
  have r1 : w2.cell? ⟨w.heap.size + 1, 1, none⟩ = some (.int .i64 0) := cell_of hkp.2 rfl
  have r2 : w2.cell? ⟨w.heap.size + 1, 2, none⟩ = some (.int .i64 0) := cell_of hkp.2 rfl
  have r3 : w2.cell? ⟨w.heap.size + 1, 3, none⟩ = some (.string ⟨#[]⟩) := cell_of hkp.2 rfl
  have fa : ∀ i, w2.frozen? ⟨w.heap.size + 1 + 1, i, none⟩ = false := fun i => frozen_of hkp.1
  have fr : ∀ i, w2.frozen? ⟨w.heap.size + 1, i, none⟩ = false := fun i => frozen_of hkp.2
  have HS : Hid (Stp px pm mp S (wrapS (doW w ⟨1, a, b, c, s, t⟩).heap.size S a) (doW w ⟨1, a, b, c, s, t⟩) w2) := hs
  have HP2 : Hid (w2.heap[w.heap.size + 1 + 1]? = some (.cells (ansCells 0 0 0 ⟨#[]⟩) 30 (0, 0)) ∧ w2.heap[w.heap.size + 1]? = some (.cells (ansCells 0 0 0 ⟨#[]⟩) 30 (0, 0))) := hkp
  clear hs hkp hst
  go_wp2
  refine do_ret (R := w.heap.size + 1) rfl (ans_row (by omega) HP2.out.1 HP2.out.2 (Chg.px (Chg.refl _ _)) _ _ _ _) ⟨?_, ?_⟩
  · rfl
  · have h3 := HS.out
    rw [doW_size] at h3
    exact Stp.fin H.out h3 (ans_chg (Chg.px (Chg.refl _ _)) _ _ _ _)

set_option maxHeartbeats 4000000 in
set_option maxRecDepth 4000 in
theorem do_get {w : World} {px pm mp : Nat} {S : RS} (h : ChainAt w px pm mp S) (ho : S.ok) (hz : S.m.zero) (hky : ∀ x ∈ S.ls, x.keyed S.m) (o : OpD) (hoo : o.ok) (hk : o.kind = 2) :
    Calls Try.prog 43 #[pt px, opV o] w fun x w' => x = .returned (ansV (doR (w.heap.size + 3) S o).1) ∧ Stp px pm mp S (doR (w.heap.size + 3) S o).2 w w' := by
  have H : Hid (ChainAt w px pm mp S) := h
  have HO : Hid S.ok := ho
  have HZ : Hid S.m.zero := hz
  have HY : Hid (∀ x ∈ S.ls, x.keyed S.m) := hky
  obtain ⟨kind, a, b, c, s, t⟩ := o
  simp only at hk
  subst hk
  have HP : Hid (i64ok a ∧ i64ok b) := hoo
  have H0 : Hid (ChainAt (doW w ⟨2, a, b, c, s, t⟩) px pm mp S) := h.chg (doW_chg _ _ []) (by simp)
  clear h ho hz hky hoo
  unfold opV
  go_enter Try.func43, Try.ntmps43
  go_wp2_with fail
  refine (xget_calls (w := doW w ⟨2, a, b, c, s, t⟩) H0.out HO.out.len a HP.out.1).mono ?_
  rintro x w2 ⟨rfl, hst⟩
  have hs : Stp px pm mp S (getS S a) (doW w ⟨2, a, b, c, s, t⟩) w2 := hst
  have hkp := doW_keep H.out hs.chg
  have a0 : w2.cell? ⟨w.heap.size + 1 + 1, 0, none⟩ = some (.int .i64 0) := cell_of hkp.1 rfl
  have a1 : w2.cell? ⟨w.heap.size + 1 + 1, 1, none⟩ = some (.int .i64 0) := cell_of hkp.1 rfl
  have a2 : w2.cell? ⟨w.heap.size + 1 + 1, 2, none⟩ = some (.int .i64 0) := cell_of hkp.1 rfl
  have a3 : w2.cell? ⟨w.heap.size + 1 + 1, 3, none⟩ = some (.string ⟨#[]⟩) := cell_of hkp.1 rfl
  have r0 : w2.cell? ⟨w.heap.size + 1, 0, none⟩ = some (.int .i64 0) := cell_of hkp.2 rfl
  have r1 : w2.cell? ⟨w.heap.size + 1, 1, none⟩ = some (.int .i64 0) := cell_of hkp.2 rfl
  have r2 : w2.cell? ⟨w.heap.size + 1, 2, none⟩ = some (.int .i64 0) := cell_of hkp.2 rfl
  have r3 : w2.cell? ⟨w.heap.size + 1, 3, none⟩ = some (.string ⟨#[]⟩) := cell_of hkp.2 rfl
  have fa : ∀ i, w2.frozen? ⟨w.heap.size + 1 + 1, i, none⟩ = false := fun i => frozen_of hkp.1
  have fr : ∀ i, w2.frozen? ⟨w.heap.size + 1, i, none⟩ = false := fun i => frozen_of hkp.2
  have HS : Hid (Stp px pm mp S (getS S a) (doW w ⟨2, a, b, c, s, t⟩) w2) := hs
  have HP2 : Hid (w2.heap[w.heap.size + 1 + 1]? = some (.cells (ansCells 0 0 0 ⟨#[]⟩) 30 (0, 0)) ∧ w2.heap[w.heap.size + 1]? = some (.cells (ansCells 0 0 0 ⟨#[]⟩) 30 (0, 0))) := hkp
  clear hs hkp hst
  go_wp2
  refine do_ret (R := w.heap.size + 1) rfl (ans_row (by omega) HP2.out.1 HP2.out.2 (Chg.px (Chg.px (Chg.refl _ _))) _ _ _ _) ⟨?_, ?_⟩
  · rfl
  · exact Stp.fin H.out HS.out (ans_chg (Chg.px (Chg.px (Chg.refl _ _))) _ _ _ _)

set_option maxHeartbeats 4000000 in
set_option maxRecDepth 4000 in
theorem do_put {w : World} {px pm mp : Nat} {S : RS} (h : ChainAt w px pm mp S) (ho : S.ok) (hz : S.m.zero) (hky : ∀ x ∈ S.ls, x.keyed S.m) (o : OpD) (hoo : o.ok) (hk : o.kind = 3) :
    Calls Try.prog 43 #[pt px, opV o] w fun x w' => x = .returned (ansV (doR (w.heap.size + 3) S o).1) ∧ Stp px pm mp S (doR (w.heap.size + 3) S o).2 w w' := by
  have H : Hid (ChainAt w px pm mp S) := h
  have HO : Hid S.ok := ho
  have HZ : Hid S.m.zero := hz
  have HY : Hid (∀ x ∈ S.ls, x.keyed S.m) := hky
  obtain ⟨kind, a, b, c, s, t⟩ := o
  simp only at hk
  subst hk
  have HP : Hid (i64ok a ∧ i64ok b) := hoo
  have H0 : Hid (ChainAt (doW w ⟨3, a, b, c, s, t⟩) px pm mp S) := h.chg (doW_chg _ _ []) (by simp)
  clear h ho hz hky hoo
  unfold opV
  go_enter Try.func43, Try.ntmps43
  go_wp2_with fail
  refine (xput_calls (w := doW w ⟨3, a, b, c, s, t⟩) H0.out a b HP.out.1).mono ?_
  rintro x w2 ⟨rfl, hst⟩
  have hs : Stp px pm mp S (putS S a b) (doW w ⟨3, a, b, c, s, t⟩) w2 := hst
  have hkp := doW_keep H.out hs.chg
  have a0 : w2.cell? ⟨w.heap.size + 1 + 1, 0, none⟩ = some (.int .i64 0) := cell_of hkp.1 rfl
  have a1 : w2.cell? ⟨w.heap.size + 1 + 1, 1, none⟩ = some (.int .i64 0) := cell_of hkp.1 rfl
  have a2 : w2.cell? ⟨w.heap.size + 1 + 1, 2, none⟩ = some (.int .i64 0) := cell_of hkp.1 rfl
  have a3 : w2.cell? ⟨w.heap.size + 1 + 1, 3, none⟩ = some (.string ⟨#[]⟩) := cell_of hkp.1 rfl
  have r0 : w2.cell? ⟨w.heap.size + 1, 0, none⟩ = some (.int .i64 0) := cell_of hkp.2 rfl
  have r1 : w2.cell? ⟨w.heap.size + 1, 1, none⟩ = some (.int .i64 0) := cell_of hkp.2 rfl
  have r2 : w2.cell? ⟨w.heap.size + 1, 2, none⟩ = some (.int .i64 0) := cell_of hkp.2 rfl
  have r3 : w2.cell? ⟨w.heap.size + 1, 3, none⟩ = some (.string ⟨#[]⟩) := cell_of hkp.2 rfl
  have fa : ∀ i, w2.frozen? ⟨w.heap.size + 1 + 1, i, none⟩ = false := fun i => frozen_of hkp.1
  have fr : ∀ i, w2.frozen? ⟨w.heap.size + 1, i, none⟩ = false := fun i => frozen_of hkp.2
  have HS : Hid (Stp px pm mp S (putS S a b) (doW w ⟨3, a, b, c, s, t⟩) w2) := hs
  have HP2 : Hid (w2.heap[w.heap.size + 1 + 1]? = some (.cells (ansCells 0 0 0 ⟨#[]⟩) 30 (0, 0)) ∧ w2.heap[w.heap.size + 1]? = some (.cells (ansCells 0 0 0 ⟨#[]⟩) 30 (0, 0))) := hkp
  clear hs hkp hst
  go_wp2
  refine do_ret (R := w.heap.size + 1) rfl (ans_row (by omega) HP2.out.1 HP2.out.2 (Chg.px (Chg.refl _ _)) _ _ _ _) ⟨?_, ?_⟩
  · rfl
  · exact Stp.fin H.out HS.out (ans_chg (Chg.px (Chg.refl _ _)) _ _ _ _)

set_option maxHeartbeats 4000000 in
set_option maxRecDepth 4000 in
theorem do_del {w : World} {px pm mp : Nat} {S : RS} (h : ChainAt w px pm mp S) (ho : S.ok) (hz : S.m.zero) (hky : ∀ x ∈ S.ls, x.keyed S.m) (o : OpD) (hoo : o.ok) (hk : o.kind = 4) :
    Calls Try.prog 43 #[pt px, opV o] w fun x w' => x = .returned (ansV (doR (w.heap.size + 3) S o).1) ∧ Stp px pm mp S (doR (w.heap.size + 3) S o).2 w w' := by
  have H : Hid (ChainAt w px pm mp S) := h
  have HO : Hid S.ok := ho
  have HZ : Hid S.m.zero := hz
  have HY : Hid (∀ x ∈ S.ls, x.keyed S.m) := hky
  obtain ⟨kind, a, b, c, s, t⟩ := o
  simp only at hk
  subst hk
  have HP : Hid (i64ok a ∧ i64ok b) := hoo
  have H0 : Hid (ChainAt (doW w ⟨4, a, b, c, s, t⟩) px pm mp S) := h.chg (doW_chg _ _ []) (by simp)
  clear h ho hz hky hoo
  unfold opV
  go_enter Try.func43, Try.ntmps43
  go_wp2_with fail
  refine (xdel_calls (w := doW w ⟨4, a, b, c, s, t⟩) H0.out a HP.out.1).mono ?_
  rintro x w2 ⟨rfl, hst⟩
  have hs : Stp px pm mp S (delS S a) (doW w ⟨4, a, b, c, s, t⟩) w2 := hst
  have hkp := doW_keep H.out hs.chg
  have a0 : w2.cell? ⟨w.heap.size + 1 + 1, 0, none⟩ = some (.int .i64 0) := cell_of hkp.1 rfl
  have a1 : w2.cell? ⟨w.heap.size + 1 + 1, 1, none⟩ = some (.int .i64 0) := cell_of hkp.1 rfl
  have a2 : w2.cell? ⟨w.heap.size + 1 + 1, 2, none⟩ = some (.int .i64 0) := cell_of hkp.1 rfl
  have a3 : w2.cell? ⟨w.heap.size + 1 + 1, 3, none⟩ = some (.string ⟨#[]⟩) := cell_of hkp.1 rfl
  have r0 : w2.cell? ⟨w.heap.size + 1, 0, none⟩ = some (.int .i64 0) := cell_of hkp.2 rfl
  have r1 : w2.cell? ⟨w.heap.size + 1, 1, none⟩ = some (.int .i64 0) := cell_of hkp.2 rfl
  have r2 : w2.cell? ⟨w.heap.size + 1, 2, none⟩ = some (.int .i64 0) := cell_of hkp.2 rfl
  have r3 : w2.cell? ⟨w.heap.size + 1, 3, none⟩ = some (.string ⟨#[]⟩) := cell_of hkp.2 rfl
  have fa : ∀ i, w2.frozen? ⟨w.heap.size + 1 + 1, i, none⟩ = false := fun i => frozen_of hkp.1
  have fr : ∀ i, w2.frozen? ⟨w.heap.size + 1, i, none⟩ = false := fun i => frozen_of hkp.2
  have HS : Hid (Stp px pm mp S (delS S a) (doW w ⟨4, a, b, c, s, t⟩) w2) := hs
  have HP2 : Hid (w2.heap[w.heap.size + 1 + 1]? = some (.cells (ansCells 0 0 0 ⟨#[]⟩) 30 (0, 0)) ∧ w2.heap[w.heap.size + 1]? = some (.cells (ansCells 0 0 0 ⟨#[]⟩) 30 (0, 0))) := hkp
  clear hs hkp hst
  go_wp2
  refine do_ret (R := w.heap.size + 1) rfl (ans_row (by omega) HP2.out.1 HP2.out.2 (Chg.px (Chg.refl _ _)) _ _ _ _) ⟨?_, ?_⟩
  · rfl
  · exact Stp.fin H.out HS.out (ans_chg (Chg.px (Chg.refl _ _)) _ _ _ _)

set_option maxHeartbeats 4000000 in
set_option maxRecDepth 4000 in
theorem do_clear {w : World} {px pm mp : Nat} {S : RS} (h : ChainAt w px pm mp S) (ho : S.ok) (hz : S.m.zero) (hky : ∀ x ∈ S.ls, x.keyed S.m) (o : OpD) (hoo : o.ok) (hk : o.kind = 12) :
    Calls Try.prog 43 #[pt px, opV o] w fun x w' => x = .returned (ansV (doR (w.heap.size + 3) S o).1) ∧ Stp px pm mp S (doR (w.heap.size + 3) S o).2 w w' := by
  have H : Hid (ChainAt w px pm mp S) := h
  have HO : Hid S.ok := ho
  have HZ : Hid S.m.zero := hz
  have HY : Hid (∀ x ∈ S.ls, x.keyed S.m) := hky
  obtain ⟨kind, a, b, c, s, t⟩ := o
  simp only at hk
  subst hk
  have HP : Hid (i64ok a ∧ i64ok b) := hoo
  have H0 : Hid (ChainAt (doW w ⟨12, a, b, c, s, t⟩) px pm mp S) := h.chg (doW_chg _ _ []) (by simp)
  clear h ho hz hky hoo
  unfold opV
  go_enter Try.func43, Try.ntmps43
  go_wp2_with fail
  refine (xclear_calls (w := doW w ⟨12, a, b, c, s, t⟩) H0.out HO.out.len).mono ?_
  rintro x w2 ⟨rfl, hst⟩
  have hs : Stp px pm mp S (clearS S) (doW w ⟨12, a, b, c, s, t⟩) w2 := hst
  have hkp := doW_keep H.out hs.chg
  have a0 : w2.cell? ⟨w.heap.size + 1 + 1, 0, none⟩ = some (.int .i64 0) := cell_of hkp.1 rfl
  have a1 : w2.cell? ⟨w.heap.size + 1 + 1, 1, none⟩ = some (.int .i64 0) := cell_of hkp.1 rfl
  have a2 : w2.cell? ⟨w.heap.size + 1 + 1, 2, none⟩ = some (.int .i64 0) := cell_of hkp.1 rfl
  have a3 : w2.cell? ⟨w.heap.size + 1 + 1, 3, none⟩ = some (.string ⟨#[]⟩) := cell_of hkp.1 rfl
  have r0 : w2.cell? ⟨w.heap.size + 1, 0, none⟩ = some (.int .i64 0) := cell_of hkp.2 rfl
  have r1 : w2.cell? ⟨w.heap.size + 1, 1, none⟩ = some (.int .i64 0) := cell_of hkp.2 rfl
  have r2 : w2.cell? ⟨w.heap.size + 1, 2, none⟩ = some (.int .i64 0) := cell_of hkp.2 rfl
  have r3 : w2.cell? ⟨w.heap.size + 1, 3, none⟩ = some (.string ⟨#[]⟩) := cell_of hkp.2 rfl
  have fa : ∀ i, w2.frozen? ⟨w.heap.size + 1 + 1, i, none⟩ = false := fun i => frozen_of hkp.1
  have fr : ∀ i, w2.frozen? ⟨w.heap.size + 1, i, none⟩ = false := fun i => frozen_of hkp.2
  have HS : Hid (Stp px pm mp S (clearS S) (doW w ⟨12, a, b, c, s, t⟩) w2) := hs
  have HP2 : Hid (w2.heap[w.heap.size + 1 + 1]? = some (.cells (ansCells 0 0 0 ⟨#[]⟩) 30 (0, 0)) ∧ w2.heap[w.heap.size + 1]? = some (.cells (ansCells 0 0 0 ⟨#[]⟩) 30 (0, 0))) := hkp
  clear hs hkp hst
  go_wp2
  refine do_ret (R := w.heap.size + 1) rfl (ans_row (by omega) HP2.out.1 HP2.out.2 (Chg.px (Chg.refl _ _)) _ _ _ _) ⟨?_, ?_⟩
  · rfl
  · exact Stp.fin H.out HS.out (ans_chg (Chg.px (Chg.refl _ _)) _ _ _ _)

set_option maxHeartbeats 4000000 in
set_option maxRecDepth 4000 in
theorem do_len {w : World} {px pm mp : Nat} {S : RS} (h : ChainAt w px pm mp S) (ho : S.ok) (hz : S.m.zero) (hky : ∀ x ∈ S.ls, x.keyed S.m) (o : OpD) (hoo : o.ok) (hk : o.kind = 5) :
    Calls Try.prog 43 #[pt px, opV o] w fun x w' => x = .returned (ansV (doR (w.heap.size + 3) S o).1) ∧ Stp px pm mp S (doR (w.heap.size + 3) S o).2 w w' := by
  have H : Hid (ChainAt w px pm mp S) := h
  have HO : Hid S.ok := ho
  have HZ : Hid S.m.zero := hz
  have HY : Hid (∀ x ∈ S.ls, x.keyed S.m) := hky
  obtain ⟨kind, a, b, c, s, t⟩ := o
  simp only at hk
  subst hk
  have HP : Hid (i64ok a ∧ i64ok b) := hoo
  have H0 : Hid (ChainAt (doW w ⟨5, a, b, c, s, t⟩) px pm mp S) := h.chg (doW_chg _ _ []) (by simp)
  clear h ho hz hky hoo
  unfold opV
  go_enter Try.func43, Try.ntmps43
  go_wp2_with fail
  refine (xlen_calls (w := doW w ⟨5, a, b, c, s, t⟩) H0.out).mono ?_
  rintro x w2 ⟨rfl, hw2⟩
  have hcc : Chg [] (doW w ⟨5, a, b, c, s, t⟩) w2 := by rw [hw2]; exact Chg.refl _ _
  clear hw2
  have hs : Stp px pm mp S S (doW w ⟨5, a, b, c, s, t⟩) w2 := Stp.same H0.out hcc
  have hkp := doW_keep H.out hs.chg
  have a0 : w2.cell? ⟨w.heap.size + 1 + 1, 0, none⟩ = some (.int .i64 0) := cell_of hkp.1 rfl
  have a1 : w2.cell? ⟨w.heap.size + 1 + 1, 1, none⟩ = some (.int .i64 0) := cell_of hkp.1 rfl
  have a2 : w2.cell? ⟨w.heap.size + 1 + 1, 2, none⟩ = some (.int .i64 0) := cell_of hkp.1 rfl
  have a3 : w2.cell? ⟨w.heap.size + 1 + 1, 3, none⟩ = some (.string ⟨#[]⟩) := cell_of hkp.1 rfl
  have r0 : w2.cell? ⟨w.heap.size + 1, 0, none⟩ = some (.int .i64 0) := cell_of hkp.2 rfl
  have r1 : w2.cell? ⟨w.heap.size + 1, 1, none⟩ = some (.int .i64 0) := cell_of hkp.2 rfl
  have r2 : w2.cell? ⟨w.heap.size + 1, 2, none⟩ = some (.int .i64 0) := cell_of hkp.2 rfl
  have r3 : w2.cell? ⟨w.heap.size + 1, 3, none⟩ = some (.string ⟨#[]⟩) := cell_of hkp.2 rfl
  have fa : ∀ i, w2.frozen? ⟨w.heap.size + 1 + 1, i, none⟩ = false := fun i => frozen_of hkp.1
  have fr : ∀ i, w2.frozen? ⟨w.heap.size + 1, i, none⟩ = false := fun i => frozen_of hkp.2
  have HS : Hid (Stp px pm mp S S (doW w ⟨5, a, b, c, s, t⟩) w2) := hs
  have HP2 : Hid (w2.heap[w.heap.size + 1 + 1]? = some (.cells (ansCells 0 0 0 ⟨#[]⟩) 30 (0, 0)) ∧ w2.heap[w.heap.size + 1]? = some (.cells (ansCells 0 0 0 ⟨#[]⟩) 30 (0, 0))) := hkp
  clear hs hkp hcc
  go_wp2
  refine do_ret (R := w.heap.size + 1) rfl (ans_row (by omega) HP2.out.1 HP2.out.2 (Chg.px (Chg.refl _ _)) _ _ _ _) ⟨?_, ?_⟩
  · rfl
  · exact Stp.fin H.out HS.out (ans_chg (Chg.px (Chg.refl _ _)) _ _ _ _)

set_option maxHeartbeats 4000000 in
set_option maxRecDepth 4000 in
theorem do_name {w : World} {px pm mp : Nat} {S : RS} (h : ChainAt w px pm mp S) (ho : S.ok) (hz : S.m.zero) (hky : ∀ x ∈ S.ls, x.keyed S.m) (o : OpD) (hoo : o.ok) (hk : o.kind = 6) :
    Calls Try.prog 43 #[pt px, opV o] w fun x w' => x = .returned (ansV (doR (w.heap.size + 3) S o).1) ∧ Stp px pm mp S (doR (w.heap.size + 3) S o).2 w w' := by
  have H : Hid (ChainAt w px pm mp S) := h
  have HO : Hid S.ok := ho
  have HZ : Hid S.m.zero := hz
  have HY : Hid (∀ x ∈ S.ls, x.keyed S.m) := hky
  obtain ⟨kind, a, b, c, s, t⟩ := o
  simp only at hk
  subst hk
  have HP : Hid (i64ok a ∧ i64ok b) := hoo
  have H0 : Hid (ChainAt (doW w ⟨6, a, b, c, s, t⟩) px pm mp S) := h.chg (doW_chg _ _ []) (by simp)
  clear h ho hz hky hoo
  unfold opV
  go_enter Try.func43, Try.ntmps43
  go_wp2_with fail
  refine (xname_calls (w := doW w ⟨6, a, b, c, s, t⟩) H0.out HO.out.len).mono ?_
  rintro x w2 ⟨rfl, hw2⟩
  have hcc : Chg [] (doW w ⟨6, a, b, c, s, t⟩) w2 := by rw [hw2]; exact Chg.refl _ _
  clear hw2
  have hs : Stp px pm mp S S (doW w ⟨6, a, b, c, s, t⟩) w2 := Stp.same H0.out hcc
  have hkp := doW_keep H.out hs.chg
  have a0 : w2.cell? ⟨w.heap.size + 1 + 1, 0, none⟩ = some (.int .i64 0) := cell_of hkp.1 rfl
  have a1 : w2.cell? ⟨w.heap.size + 1 + 1, 1, none⟩ = some (.int .i64 0) := cell_of hkp.1 rfl
  have a2 : w2.cell? ⟨w.heap.size + 1 + 1, 2, none⟩ = some (.int .i64 0) := cell_of hkp.1 rfl
  have a3 : w2.cell? ⟨w.heap.size + 1 + 1, 3, none⟩ = some (.string ⟨#[]⟩) := cell_of hkp.1 rfl
  have r0 : w2.cell? ⟨w.heap.size + 1, 0, none⟩ = some (.int .i64 0) := cell_of hkp.2 rfl
  have r1 : w2.cell? ⟨w.heap.size + 1, 1, none⟩ = some (.int .i64 0) := cell_of hkp.2 rfl
  have r2 : w2.cell? ⟨w.heap.size + 1, 2, none⟩ = some (.int .i64 0) := cell_of hkp.2 rfl
  have r3 : w2.cell? ⟨w.heap.size + 1, 3, none⟩ = some (.string ⟨#[]⟩) := cell_of hkp.2 rfl
  have fa : ∀ i, w2.frozen? ⟨w.heap.size + 1 + 1, i, none⟩ = false := fun i => frozen_of hkp.1
  have fr : ∀ i, w2.frozen? ⟨w.heap.size + 1, i, none⟩ = false := fun i => frozen_of hkp.2
  have HS : Hid (Stp px pm mp S S (doW w ⟨6, a, b, c, s, t⟩) w2) := hs
  have HP2 : Hid (w2.heap[w.heap.size + 1 + 1]? = some (.cells (ansCells 0 0 0 ⟨#[]⟩) 30 (0, 0)) ∧ w2.heap[w.heap.size + 1]? = some (.cells (ansCells 0 0 0 ⟨#[]⟩) 30 (0, 0))) := hkp
  clear hs hkp hcc
  go_wp2
  refine do_ret (R := w.heap.size + 1) rfl (ans_row (by omega) HP2.out.1 HP2.out.2 (Chg.px (Chg.refl _ _)) _ _ _ _) ⟨?_, ?_⟩
  · rfl
  · exact Stp.fin H.out HS.out (ans_chg (Chg.px (Chg.refl _ _)) _ _ _ _)

set_option maxHeartbeats 4000000 in
set_option maxRecDepth 4000 in
theorem do_hits {w : World} {px pm mp : Nat} {S : RS} (h : ChainAt w px pm mp S) (ho : S.ok) (hz : S.m.zero) (hky : ∀ x ∈ S.ls, x.keyed S.m) (o : OpD) (hoo : o.ok) (hk : o.kind = 7) :
    Calls Try.prog 43 #[pt px, opV o] w fun x w' => x = .returned (ansV (doR (w.heap.size + 3) S o).1) ∧ Stp px pm mp S (doR (w.heap.size + 3) S o).2 w w' := by
  have H : Hid (ChainAt w px pm mp S) := h
  have HO : Hid S.ok := ho
  have HZ : Hid S.m.zero := hz
  have HY : Hid (∀ x ∈ S.ls, x.keyed S.m) := hky
  obtain ⟨kind, a, b, c, s, t⟩ := o
  simp only at hk
  subst hk
  have HP : Hid (i64ok a ∧ i64ok b) := hoo
  have H0 : Hid (ChainAt (doW w ⟨7, a, b, c, s, t⟩) px pm mp S) := h.chg (doW_chg _ _ []) (by simp)
  clear h ho hz hky hoo
  unfold opV
  go_enter Try.func43, Try.ntmps43
  go_wp2_with fail
  refine (xhits_calls (w := doW w ⟨7, a, b, c, s, t⟩) H0.out).mono ?_
  rintro x w2 ⟨rfl, hw2⟩
  have hcc : Chg [] (doW w ⟨7, a, b, c, s, t⟩) w2 := by rw [hw2]; exact Chg.refl _ _
  clear hw2
  have hs : Stp px pm mp S S (doW w ⟨7, a, b, c, s, t⟩) w2 := Stp.same H0.out hcc
  have hkp := doW_keep H.out hs.chg
  have a0 : w2.cell? ⟨w.heap.size + 1 + 1, 0, none⟩ = some (.int .i64 0) := cell_of hkp.1 rfl
  have a1 : w2.cell? ⟨w.heap.size + 1 + 1, 1, none⟩ = some (.int .i64 0) := cell_of hkp.1 rfl
  have a2 : w2.cell? ⟨w.heap.size + 1 + 1, 2, none⟩ = some (.int .i64 0) := cell_of hkp.1 rfl
  have a3 : w2.cell? ⟨w.heap.size + 1 + 1, 3, none⟩ = some (.string ⟨#[]⟩) := cell_of hkp.1 rfl
  have r0 : w2.cell? ⟨w.heap.size + 1, 0, none⟩ = some (.int .i64 0) := cell_of hkp.2 rfl
  have r1 : w2.cell? ⟨w.heap.size + 1, 1, none⟩ = some (.int .i64 0) := cell_of hkp.2 rfl
  have r2 : w2.cell? ⟨w.heap.size + 1, 2, none⟩ = some (.int .i64 0) := cell_of hkp.2 rfl
  have r3 : w2.cell? ⟨w.heap.size + 1, 3, none⟩ = some (.string ⟨#[]⟩) := cell_of hkp.2 rfl
  have fa : ∀ i, w2.frozen? ⟨w.heap.size + 1 + 1, i, none⟩ = false := fun i => frozen_of hkp.1
  have fr : ∀ i, w2.frozen? ⟨w.heap.size + 1, i, none⟩ = false := fun i => frozen_of hkp.2
  have HS : Hid (Stp px pm mp S S (doW w ⟨7, a, b, c, s, t⟩) w2) := hs
  have HP2 : Hid (w2.heap[w.heap.size + 1 + 1]? = some (.cells (ansCells 0 0 0 ⟨#[]⟩) 30 (0, 0)) ∧ w2.heap[w.heap.size + 1]? = some (.cells (ansCells 0 0 0 ⟨#[]⟩) 30 (0, 0))) := hkp
  clear hs hkp hcc
  go_wp2
  refine do_ret (R := w.heap.size + 1) rfl (ans_row (by omega) HP2.out.1 HP2.out.2 (Chg.px (Chg.px (Chg.refl _ _))) _ _ _ _) ⟨?_, ?_⟩
  · rfl
  · exact Stp.fin H.out HS.out (ans_chg (Chg.px (Chg.px (Chg.refl _ _))) _ _ _ _)

set_option maxHeartbeats 4000000 in
set_option maxRecDepth 4000 in
theorem do_hold {w : World} {px pm mp : Nat} {S : RS} (h : ChainAt w px pm mp S) (ho : S.ok) (hz : S.m.zero) (hky : ∀ x ∈ S.ls, x.keyed S.m) (o : OpD) (hoo : o.ok) (hk : o.kind = 8) :
    Calls Try.prog 43 #[pt px, opV o] w fun x w' => x = .returned (ansV (doR (w.heap.size + 3) S o).1) ∧ Stp px pm mp S (doR (w.heap.size + 3) S o).2 w w' := by
  have H : Hid (ChainAt w px pm mp S) := h
  have HO : Hid S.ok := ho
  have HZ : Hid S.m.zero := hz
  have HY : Hid (∀ x ∈ S.ls, x.keyed S.m) := hky
  obtain ⟨kind, a, b, c, s, t⟩ := o
  simp only at hk
  subst hk
  have HP : Hid (i64ok a ∧ i64ok b) := hoo
  have H0 : Hid (ChainAt (doW w ⟨8, a, b, c, s, t⟩) px pm mp S) := h.chg (doW_chg _ _ []) (by simp)
  clear h ho hz hky hoo
  unfold opV
  go_enter Try.func43, Try.ntmps43
  go_wp2_with fail
  refine (xhold_calls (w := doW w ⟨8, a, b, c, s, t⟩) H0.out).mono ?_
  rintro x w2 ⟨rfl, hst⟩
  have hs : Stp px pm mp S (holdS S) (doW w ⟨8, a, b, c, s, t⟩) w2 := hst
  have hkp := doW_keep H.out hs.chg
  have a0 : w2.cell? ⟨w.heap.size + 1 + 1, 0, none⟩ = some (.int .i64 0) := cell_of hkp.1 rfl
  have a1 : w2.cell? ⟨w.heap.size + 1 + 1, 1, none⟩ = some (.int .i64 0) := cell_of hkp.1 rfl
  have a2 : w2.cell? ⟨w.heap.size + 1 + 1, 2, none⟩ = some (.int .i64 0) := cell_of hkp.1 rfl
  have a3 : w2.cell? ⟨w.heap.size + 1 + 1, 3, none⟩ = some (.string ⟨#[]⟩) := cell_of hkp.1 rfl
  have r0 : w2.cell? ⟨w.heap.size + 1, 0, none⟩ = some (.int .i64 0) := cell_of hkp.2 rfl
  have r1 : w2.cell? ⟨w.heap.size + 1, 1, none⟩ = some (.int .i64 0) := cell_of hkp.2 rfl
  have r2 : w2.cell? ⟨w.heap.size + 1, 2, none⟩ = some (.int .i64 0) := cell_of hkp.2 rfl
  have r3 : w2.cell? ⟨w.heap.size + 1, 3, none⟩ = some (.string ⟨#[]⟩) := cell_of hkp.2 rfl
  have fa : ∀ i, w2.frozen? ⟨w.heap.size + 1 + 1, i, none⟩ = false := fun i => frozen_of hkp.1
  have fr : ∀ i, w2.frozen? ⟨w.heap.size + 1, i, none⟩ = false := fun i => frozen_of hkp.2
  have HS : Hid (Stp px pm mp S (holdS S) (doW w ⟨8, a, b, c, s, t⟩) w2) := hs
  have HP2 : Hid (w2.heap[w.heap.size + 1 + 1]? = some (.cells (ansCells 0 0 0 ⟨#[]⟩) 30 (0, 0)) ∧ w2.heap[w.heap.size + 1]? = some (.cells (ansCells 0 0 0 ⟨#[]⟩) 30 (0, 0))) := hkp
  clear hs hkp hst
  go_wp2
  refine do_ret (R := w.heap.size + 1) rfl (ans_row (by omega) HP2.out.1 HP2.out.2 (Chg.px (Chg.refl _ _)) _ _ _ _) ⟨?_, ?_⟩
  · rfl
  · exact Stp.fin H.out HS.out (ans_chg (Chg.px (Chg.refl _ _)) _ _ _ _)

set_option maxHeartbeats 4000000 in
set_option maxRecDepth 4000 in
theorem do_hget {w : World} {px pm mp : Nat} {S : RS} (h : ChainAt w px pm mp S) (ho : S.ok) (hz : S.m.zero) (hky : ∀ x ∈ S.ls, x.keyed S.m) (o : OpD) (hoo : o.ok) (hk : o.kind = 9) :
    Calls Try.prog 43 #[pt px, opV o] w fun x w' => x = .returned (ansV (doR (w.heap.size + 3) S o).1) ∧ Stp px pm mp S (doR (w.heap.size + 3) S o).2 w w' := by
  have H : Hid (ChainAt w px pm mp S) := h
  have HO : Hid S.ok := ho
  have HZ : Hid S.m.zero := hz
  have HY : Hid (∀ x ∈ S.ls, x.keyed S.m) := hky
  obtain ⟨kind, a, b, c, s, t⟩ := o
  simp only at hk
  subst hk
  have HP : Hid (i64ok a ∧ i64ok b) := hoo
  have H0 : Hid (ChainAt (doW w ⟨9, a, b, c, s, t⟩) px pm mp S) := h.chg (doW_chg _ _ []) (by simp)
  clear h ho hz hky hoo
  unfold opV
  go_enter Try.func43, Try.ntmps43
  go_wp2_with fail
  refine (xhget_calls (w := doW w ⟨9, a, b, c, s, t⟩) H0.out HO.out.len a HP.out.1).mono ?_
  rintro x w2 ⟨rfl, hst⟩
  have hs : Stp px pm mp S (heldGetR S a).2.2 (doW w ⟨9, a, b, c, s, t⟩) w2 := hst
  have hkp := doW_keep H.out hs.chg
  have a0 : w2.cell? ⟨w.heap.size + 1 + 1, 0, none⟩ = some (.int .i64 0) := cell_of hkp.1 rfl
  have a1 : w2.cell? ⟨w.heap.size + 1 + 1, 1, none⟩ = some (.int .i64 0) := cell_of hkp.1 rfl
  have a2 : w2.cell? ⟨w.heap.size + 1 + 1, 2, none⟩ = some (.int .i64 0) := cell_of hkp.1 rfl
  have a3 : w2.cell? ⟨w.heap.size + 1 + 1, 3, none⟩ = some (.string ⟨#[]⟩) := cell_of hkp.1 rfl
  have r0 : w2.cell? ⟨w.heap.size + 1, 0, none⟩ = some (.int .i64 0) := cell_of hkp.2 rfl
  have r1 : w2.cell? ⟨w.heap.size + 1, 1, none⟩ = some (.int .i64 0) := cell_of hkp.2 rfl
  have r2 : w2.cell? ⟨w.heap.size + 1, 2, none⟩ = some (.int .i64 0) := cell_of hkp.2 rfl
  have r3 : w2.cell? ⟨w.heap.size + 1, 3, none⟩ = some (.string ⟨#[]⟩) := cell_of hkp.2 rfl
  have fa : ∀ i, w2.frozen? ⟨w.heap.size + 1 + 1, i, none⟩ = false := fun i => frozen_of hkp.1
  have fr : ∀ i, w2.frozen? ⟨w.heap.size + 1, i, none⟩ = false := fun i => frozen_of hkp.2
  have HS : Hid (Stp px pm mp S (heldGetR S a).2.2 (doW w ⟨9, a, b, c, s, t⟩) w2) := hs
  have HP2 : Hid (w2.heap[w.heap.size + 1 + 1]? = some (.cells (ansCells 0 0 0 ⟨#[]⟩) 30 (0, 0)) ∧ w2.heap[w.heap.size + 1]? = some (.cells (ansCells 0 0 0 ⟨#[]⟩) 30 (0, 0))) := hkp
  clear hs hkp hst
  go_wp2
  refine do_ret (R := w.heap.size + 1) rfl (ans_row (by omega) HP2.out.1 HP2.out.2 (Chg.px (Chg.px (Chg.refl _ _))) _ _ _ _) ⟨?_, ?_⟩
  · rfl
  · exact Stp.fin H.out HS.out (ans_chg (Chg.px (Chg.px (Chg.refl _ _))) _ _ _ _)

set_option maxHeartbeats 4000000 in
set_option maxRecDepth 4000 in
theorem do_hput {w : World} {px pm mp : Nat} {S : RS} (h : ChainAt w px pm mp S) (ho : S.ok) (hz : S.m.zero) (hky : ∀ x ∈ S.ls, x.keyed S.m) (o : OpD) (hoo : o.ok) (hk : o.kind = 13) :
    Calls Try.prog 43 #[pt px, opV o] w fun x w' => x = .returned (ansV (doR (w.heap.size + 3) S o).1) ∧ Stp px pm mp S (doR (w.heap.size + 3) S o).2 w w' := by
  have H : Hid (ChainAt w px pm mp S) := h
  have HO : Hid S.ok := ho
  have HZ : Hid S.m.zero := hz
  have HY : Hid (∀ x ∈ S.ls, x.keyed S.m) := hky
  obtain ⟨kind, a, b, c, s, t⟩ := o
  simp only at hk
  subst hk
  have HP : Hid (i64ok a ∧ i64ok b) := hoo
  have H0 : Hid (ChainAt (doW w ⟨13, a, b, c, s, t⟩) px pm mp S) := h.chg (doW_chg _ _ []) (by simp)
  clear h ho hz hky hoo
  unfold opV
  go_enter Try.func43, Try.ntmps43
  go_wp2_with fail
  refine (xhput_calls (w := doW w ⟨13, a, b, c, s, t⟩) H0.out a b HP.out.1).mono ?_
  rintro x w2 ⟨rfl, hst⟩
  have hs : Stp px pm mp S (heldPutR S a b).2 (doW w ⟨13, a, b, c, s, t⟩) w2 := hst
  have hkp := doW_keep H.out hs.chg
  have a0 : w2.cell? ⟨w.heap.size + 1 + 1, 0, none⟩ = some (.int .i64 0) := cell_of hkp.1 rfl
  have a1 : w2.cell? ⟨w.heap.size + 1 + 1, 1, none⟩ = some (.int .i64 0) := cell_of hkp.1 rfl
  have a2 : w2.cell? ⟨w.heap.size + 1 + 1, 2, none⟩ = some (.int .i64 0) := cell_of hkp.1 rfl
  have a3 : w2.cell? ⟨w.heap.size + 1 + 1, 3, none⟩ = some (.string ⟨#[]⟩) := cell_of hkp.1 rfl
  have r0 : w2.cell? ⟨w.heap.size + 1, 0, none⟩ = some (.int .i64 0) := cell_of hkp.2 rfl
  have r1 : w2.cell? ⟨w.heap.size + 1, 1, none⟩ = some (.int .i64 0) := cell_of hkp.2 rfl
  have r2 : w2.cell? ⟨w.heap.size + 1, 2, none⟩ = some (.int .i64 0) := cell_of hkp.2 rfl
  have r3 : w2.cell? ⟨w.heap.size + 1, 3, none⟩ = some (.string ⟨#[]⟩) := cell_of hkp.2 rfl
  have fa : ∀ i, w2.frozen? ⟨w.heap.size + 1 + 1, i, none⟩ = false := fun i => frozen_of hkp.1
  have fr : ∀ i, w2.frozen? ⟨w.heap.size + 1, i, none⟩ = false := fun i => frozen_of hkp.2
  have HS : Hid (Stp px pm mp S (heldPutR S a b).2 (doW w ⟨13, a, b, c, s, t⟩) w2) := hs
  have HP2 : Hid (w2.heap[w.heap.size + 1 + 1]? = some (.cells (ansCells 0 0 0 ⟨#[]⟩) 30 (0, 0)) ∧ w2.heap[w.heap.size + 1]? = some (.cells (ansCells 0 0 0 ⟨#[]⟩) 30 (0, 0))) := hkp
  clear hs hkp hst
  go_wp2
  refine do_ret (R := w.heap.size + 1) rfl (ans_row (by omega) HP2.out.1 HP2.out.2 (Chg.px (Chg.refl _ _)) _ _ _ _) ⟨?_, ?_⟩
  · rfl
  · exact Stp.fin H.out HS.out (ans_chg (Chg.px (Chg.refl _ _)) _ _ _ _)

set_option maxHeartbeats 4000000 in
set_option maxRecDepth 4000 in
theorem do_since {w : World} {px pm mp : Nat} {S : RS} (h : ChainAt w px pm mp S) (ho : S.ok) (hz : S.m.zero) (hky : ∀ x ∈ S.ls, x.keyed S.m) (o : OpD) (hoo : o.ok) (hk : o.kind = 14) :
    Calls Try.prog 43 #[pt px, opV o] w fun x w' => x = .returned (ansV (doR (w.heap.size + 3) S o).1) ∧ Stp px pm mp S (doR (w.heap.size + 3) S o).2 w w' := by
  have H : Hid (ChainAt w px pm mp S) := h
  have HO : Hid S.ok := ho
  have HZ : Hid S.m.zero := hz
  have HY : Hid (∀ x ∈ S.ls, x.keyed S.m) := hky
  obtain ⟨kind, a, b, c, s, t⟩ := o
  simp only at hk
  subst hk
  have HP : Hid (i64ok a ∧ i64ok b) := hoo
  have H0 : Hid (ChainAt (doW w ⟨14, a, b, c, s, t⟩) px pm mp S) := h.chg (doW_chg _ _ []) (by simp)
  clear h ho hz hky hoo
  unfold opV
  go_enter Try.func43, Try.ntmps43
  go_wp2_with fail
  refine (xsince_calls (w := doW w ⟨14, a, b, c, s, t⟩) H0.out).mono ?_
  rintro x w2 ⟨rfl, hcc⟩
  have hs : Stp px pm mp S S (doW w ⟨14, a, b, c, s, t⟩) w2 := Stp.same H0.out hcc
  have hkp := doW_keep H.out hs.chg
  have a0 : w2.cell? ⟨w.heap.size + 1 + 1, 0, none⟩ = some (.int .i64 0) := cell_of hkp.1 rfl
  have a1 : w2.cell? ⟨w.heap.size + 1 + 1, 1, none⟩ = some (.int .i64 0) := cell_of hkp.1 rfl
  have a2 : w2.cell? ⟨w.heap.size + 1 + 1, 2, none⟩ = some (.int .i64 0) := cell_of hkp.1 rfl
  have a3 : w2.cell? ⟨w.heap.size + 1 + 1, 3, none⟩ = some (.string ⟨#[]⟩) := cell_of hkp.1 rfl
  have r0 : w2.cell? ⟨w.heap.size + 1, 0, none⟩ = some (.int .i64 0) := cell_of hkp.2 rfl
  have r1 : w2.cell? ⟨w.heap.size + 1, 1, none⟩ = some (.int .i64 0) := cell_of hkp.2 rfl
  have r2 : w2.cell? ⟨w.heap.size + 1, 2, none⟩ = some (.int .i64 0) := cell_of hkp.2 rfl
  have r3 : w2.cell? ⟨w.heap.size + 1, 3, none⟩ = some (.string ⟨#[]⟩) := cell_of hkp.2 rfl
  have fa : ∀ i, w2.frozen? ⟨w.heap.size + 1 + 1, i, none⟩ = false := fun i => frozen_of hkp.1
  have fr : ∀ i, w2.frozen? ⟨w.heap.size + 1, i, none⟩ = false := fun i => frozen_of hkp.2
  have HS : Hid (Stp px pm mp S S (doW w ⟨14, a, b, c, s, t⟩) w2) := hs
  have HP2 : Hid (w2.heap[w.heap.size + 1 + 1]? = some (.cells (ansCells 0 0 0 ⟨#[]⟩) 30 (0, 0)) ∧ w2.heap[w.heap.size + 1]? = some (.cells (ansCells 0 0 0 ⟨#[]⟩) 30 (0, 0))) := hkp
  clear hs hkp hcc
  go_wp2
  refine do_ret (R := w.heap.size + 1) rfl (ans_row (by omega) HP2.out.1 HP2.out.2 (Chg.px (Chg.px (Chg.refl _ _))) _ _ _ _) ⟨?_, ?_⟩
  · rfl
  · exact Stp.fin H.out HS.out (ans_chg (Chg.px (Chg.px (Chg.refl _ _))) _ _ _ _)

set_option maxHeartbeats 4000000 in
set_option maxRecDepth 4000 in
theorem do_show {w : World} {px pm mp : Nat} {S : RS} (h : ChainAt w px pm mp S) (ho : S.ok) (hz : S.m.zero) (hky : ∀ x ∈ S.ls, x.keyed S.m) (o : OpD) (hoo : o.ok) (hk : o.kind = 10) :
    Calls Try.prog 43 #[pt px, opV o] w fun x w' => x = .returned (ansV (doR (w.heap.size + 3) S o).1) ∧ Stp px pm mp S (doR (w.heap.size + 3) S o).2 w w' := by
  have H : Hid (ChainAt w px pm mp S) := h
  have HO : Hid S.ok := ho
  have HZ : Hid S.m.zero := hz
  have HY : Hid (∀ x ∈ S.ls, x.keyed S.m) := hky
  obtain ⟨kind, a, b, c, s, t⟩ := o
  simp only at hk
  subst hk
  have HP : Hid (i64ok a ∧ i64ok b) := hoo
  have H0 : Hid (ChainAt (doW w ⟨10, a, b, c, s, t⟩) px pm mp S) := h.chg (doW_chg _ _ []) (by simp)
  clear h ho hz hky hoo
  unfold opV
  go_enter Try.func43, Try.ntmps43
  go_wp2_with fail
  refine (xshow_calls (w := doW w ⟨10, a, b, c, s, t⟩) H0.out HO.out).mono ?_
  rintro x w2 ⟨rfl, hcc⟩
  have hs : Stp px pm mp S S (doW w ⟨10, a, b, c, s, t⟩) w2 := Stp.same H0.out hcc
  have hkp := doW_keep H.out hs.chg
  have a0 : w2.cell? ⟨w.heap.size + 1 + 1, 0, none⟩ = some (.int .i64 0) := cell_of hkp.1 rfl
  have a1 : w2.cell? ⟨w.heap.size + 1 + 1, 1, none⟩ = some (.int .i64 0) := cell_of hkp.1 rfl
  have a2 : w2.cell? ⟨w.heap.size + 1 + 1, 2, none⟩ = some (.int .i64 0) := cell_of hkp.1 rfl
  have a3 : w2.cell? ⟨w.heap.size + 1 + 1, 3, none⟩ = some (.string ⟨#[]⟩) := cell_of hkp.1 rfl
  have r0 : w2.cell? ⟨w.heap.size + 1, 0, none⟩ = some (.int .i64 0) := cell_of hkp.2 rfl
  have r1 : w2.cell? ⟨w.heap.size + 1, 1, none⟩ = some (.int .i64 0) := cell_of hkp.2 rfl
  have r2 : w2.cell? ⟨w.heap.size + 1, 2, none⟩ = some (.int .i64 0) := cell_of hkp.2 rfl
  have r3 : w2.cell? ⟨w.heap.size + 1, 3, none⟩ = some (.string ⟨#[]⟩) := cell_of hkp.2 rfl
  have fa : ∀ i, w2.frozen? ⟨w.heap.size + 1 + 1, i, none⟩ = false := fun i => frozen_of hkp.1
  have fr : ∀ i, w2.frozen? ⟨w.heap.size + 1, i, none⟩ = false := fun i => frozen_of hkp.2
  have HS : Hid (Stp px pm mp S S (doW w ⟨10, a, b, c, s, t⟩) w2) := hs
  have HP2 : Hid (w2.heap[w.heap.size + 1 + 1]? = some (.cells (ansCells 0 0 0 ⟨#[]⟩) 30 (0, 0)) ∧ w2.heap[w.heap.size + 1]? = some (.cells (ansCells 0 0 0 ⟨#[]⟩) 30 (0, 0))) := hkp
  clear hs hkp hcc
  go_wp2
  refine do_ret (R := w.heap.size + 1) rfl (ans_row (by omega) HP2.out.1 HP2.out.2 (Chg.px (Chg.refl _ _)) _ _ _ _) ⟨?_, ?_⟩
  · rfl
  · exact Stp.fin H.out HS.out (ans_chg (Chg.px (Chg.refl _ _)) _ _ _ _)

set_option maxHeartbeats 4000000 in
set_option maxRecDepth 4000 in
theorem do_check {w : World} {px pm mp : Nat} {S : RS} (h : ChainAt w px pm mp S) (ho : S.ok) (hz : S.m.zero) (hky : ∀ x ∈ S.ls, x.keyed S.m) (o : OpD) (hoo : o.ok) (hk : o.kind = 11) :
    Calls Try.prog 43 #[pt px, opV o] w fun x w' => x = .returned (ansV (doR (w.heap.size + 3) S o).1) ∧ Stp px pm mp S (doR (w.heap.size + 3) S o).2 w w' := by
  have H : Hid (ChainAt w px pm mp S) := h
  have HO : Hid S.ok := ho
  have HZ : Hid S.m.zero := hz
  have HY : Hid (∀ x ∈ S.ls, x.keyed S.m) := hky
  obtain ⟨kind, a, b, c, s, t⟩ := o
  simp only at hk
  subst hk
  have HP : Hid (i64ok a ∧ i64ok b) := hoo
  have H0 : Hid (ChainAt (doW w ⟨11, a, b, c, s, t⟩) px pm mp S) := h.chg (doW_chg _ _ []) (by simp)
  clear h ho hz hky hoo
  unfold opV
  go_enter Try.func43, Try.ntmps43
  go_wp2_with fail
  refine (xcheck_calls (w := doW w ⟨11, a, b, c, s, t⟩) H0.out HO.out HZ.out HY.out).mono ?_
  rintro x w2 ⟨rfl, hcc⟩
  have hs : Stp px pm mp S S (doW w ⟨11, a, b, c, s, t⟩) w2 := Stp.same H0.out hcc
  have hkp := doW_keep H.out hs.chg
  have a0 : w2.cell? ⟨w.heap.size + 1 + 1, 0, none⟩ = some (.int .i64 0) := cell_of hkp.1 rfl
  have a1 : w2.cell? ⟨w.heap.size + 1 + 1, 1, none⟩ = some (.int .i64 0) := cell_of hkp.1 rfl
  have a2 : w2.cell? ⟨w.heap.size + 1 + 1, 2, none⟩ = some (.int .i64 0) := cell_of hkp.1 rfl
  have a3 : w2.cell? ⟨w.heap.size + 1 + 1, 3, none⟩ = some (.string ⟨#[]⟩) := cell_of hkp.1 rfl
  have r0 : w2.cell? ⟨w.heap.size + 1, 0, none⟩ = some (.int .i64 0) := cell_of hkp.2 rfl
  have r1 : w2.cell? ⟨w.heap.size + 1, 1, none⟩ = some (.int .i64 0) := cell_of hkp.2 rfl
  have r2 : w2.cell? ⟨w.heap.size + 1, 2, none⟩ = some (.int .i64 0) := cell_of hkp.2 rfl
  have r3 : w2.cell? ⟨w.heap.size + 1, 3, none⟩ = some (.string ⟨#[]⟩) := cell_of hkp.2 rfl
  have fa : ∀ i, w2.frozen? ⟨w.heap.size + 1 + 1, i, none⟩ = false := fun i => frozen_of hkp.1
  have fr : ∀ i, w2.frozen? ⟨w.heap.size + 1, i, none⟩ = false := fun i => frozen_of hkp.2
  have HS : Hid (Stp px pm mp S S (doW w ⟨11, a, b, c, s, t⟩) w2) := hs
  have HP2 : Hid (w2.heap[w.heap.size + 1 + 1]? = some (.cells (ansCells 0 0 0 ⟨#[]⟩) 30 (0, 0)) ∧ w2.heap[w.heap.size + 1]? = some (.cells (ansCells 0 0 0 ⟨#[]⟩) 30 (0, 0))) := hkp
  clear hs hkp hcc
  go_wp2
  refine do_ret (R := w.heap.size + 1) rfl (ans_row (by omega) HP2.out.1 HP2.out.2 (Chg.px (Chg.refl _ _)) _ _ _ _) ⟨?_, ?_⟩
  · rfl
  · exact Stp.fin H.out HS.out (ans_chg (Chg.px (Chg.refl _ _)) _ _ _ _)

set_option maxHeartbeats 4000000 in
set_option maxRecDepth 4000 in
theorem do_none {w : World} {px pm mp : Nat} {S : RS} (h : ChainAt w px pm mp S) (ho : S.ok) (o : OpD) (k1 : ¬ o.kind = 1) (k2 : ¬ o.kind = 2) (k3 : ¬ o.kind = 3) (k4 : ¬ o.kind = 4) (k12 : ¬ o.kind = 12) (k5 : ¬ o.kind = 5) (k6 : ¬ o.kind = 6) (k7 : ¬ o.kind = 7) (k8 : ¬ o.kind = 8) (k9 : ¬ o.kind = 9) (k13 : ¬ o.kind = 13) (k14 : ¬ o.kind = 14) (k10 : ¬ o.kind = 10) (k11 : ¬ o.kind = 11) :
    Calls Try.prog 43 #[pt px, opV o] w fun x w' => x = .returned (ansV (doR (w.heap.size + 3) S o).1) ∧ Stp px pm mp S (doR (w.heap.size + 3) S o).2 w w' := by
  have H : Hid (ChainAt w px pm mp S) := h
  have e : doR (w.heap.size + 3) S o = (⟨0, 0, 0, ⟨#[]⟩⟩, S) := by simp only [doR, if_neg k1, if_neg k2, if_neg k3, if_neg k4, if_neg k12, if_neg k5, if_neg k6, if_neg k7, if_neg k8, if_neg k9, if_neg k13, if_neg k14, if_neg k10, if_neg k11]
  rw [e]
  obtain ⟨kind, a, b, c, s, t⟩ := o
  simp only at k1 k2 k3 k4 k12 k5 k6 k7 k8 k9 k13 k14 k10 k11
  have j1 : (kind == 1) = false := by simpa using k1
  have j2 : (kind == 2) = false := by simpa using k2
  have j3 : (kind == 3) = false := by simpa using k3
  have j4 : (kind == 4) = false := by simpa using k4
  have j12 : (kind == 12) = false := by simpa using k12
  have j5 : (kind == 5) = false := by simpa using k5
  have j6 : (kind == 6) = false := by simpa using k6
  have j7 : (kind == 7) = false := by simpa using k7
  have j8 : (kind == 8) = false := by simpa using k8
  have j9 : (kind == 9) = false := by simpa using k9
  have j13 : (kind == 13) = false := by simpa using k13
  have j14 : (kind == 14) = false := by simpa using k14
  have j10 : (kind == 10) = false := by simpa using k10
  have j11 : (kind == 11) = false := by simpa using k11
  clear h ho e k1 k2 k3 k4 k12 k5 k6 k7 k8 k9 k13 k14 k10 k11
  unfold opV
  go_enter Try.func43, Try.ntmps43
  go_wp2
  refine do_ret (R := w.heap.size + 1) rfl (doW_r w ⟨kind, a, b, c, s, t⟩) ⟨rfl, Stp.same H.out (doW_chg w ⟨kind, a, b, c, s, t⟩ [])⟩

theorem do_calls {w : World} {px pm mp : Nat} {S : RS} (h : ChainAt w px pm mp S) (ho : S.ok) (hz : S.m.zero) (hky : ∀ x ∈ S.ls, x.keyed S.m) (o : OpD) (hoo : o.ok) :
    Calls Try.prog 43 #[pt px, opV o] w fun x w' => x = .returned (ansV (doR (w.heap.size + 3) S o).1) ∧ Stp px pm mp S (doR (w.heap.size + 3) S o).2 w w' := by
  by_cases k1 : o.kind = 1
  · exact do_wrap h ho hz hky o hoo k1
  by_cases k2 : o.kind = 2
  · exact do_get h ho hz hky o hoo k2
  by_cases k3 : o.kind = 3
  · exact do_put h ho hz hky o hoo k3
  by_cases k4 : o.kind = 4
  · exact do_del h ho hz hky o hoo k4
  by_cases k12 : o.kind = 12
  · exact do_clear h ho hz hky o hoo k12
  by_cases k5 : o.kind = 5
  · exact do_len h ho hz hky o hoo k5
  by_cases k6 : o.kind = 6
  · exact do_name h ho hz hky o hoo k6
  by_cases k7 : o.kind = 7
  · exact do_hits h ho hz hky o hoo k7
  by_cases k8 : o.kind = 8
  · exact do_hold h ho hz hky o hoo k8
  by_cases k9 : o.kind = 9
  · exact do_hget h ho hz hky o hoo k9
  by_cases k13 : o.kind = 13
  · exact do_hput h ho hz hky o hoo k13
  by_cases k14 : o.kind = 14
  · exact do_since h ho hz hky o hoo k14
  by_cases k10 : o.kind = 10
  · exact do_show h ho hz hky o hoo k10
  by_cases k11 : o.kind = 11
  · exact do_check h ho hz hky o hoo k11
  exact do_none h ho o k1 k2 k3 k4 k12 k5 k6 k7 k8 k9 k13 k14 k10 k11
end Go.Proofs.Qxb6500371a.W
