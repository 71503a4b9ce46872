import Derived.Test.Qxb6500374aProg
import Derived.WalkKit
import Derived.Below
import Derived.Maps.OwnSet
import Derived.Maps.RangeWalk
import Derived.KernelRfl
set_option linter.unusedVariables false
set_option linter.unusedSimpArgs false
namespace Go.Proofs.Qxb6500374a.W
open Go.RowKit Go.Maps
open Go.ChangeMaps (setBlock)

/-- Of the blocks that stood, none but those of bs has turned; the streams are as they were. -/
structure Chg (bs : List Nat) (w w' : World) : Prop where
  os : w'.os = w.os
  tape : w'.tape = w.tape
  output : w'.output = w.output
  size : w.heap.size ≤ w'.heap.size
  block : ∀ k, k < w.heap.size → k ∉ bs → w'.heap[k]? = w.heap[k]?

theorem Chg.refl (bs : List Nat) (w : World) : Chg bs w w := ⟨rfl, rfl, rfl, Nat.le_refl _, fun _ _ _ => rfl⟩
theorem Chg.trans {bs : List Nat} {a b c : World} (h : Chg bs a b) (k : Chg bs b c) : Chg bs a c :=
  ⟨k.os.trans h.os, k.tape.trans h.tape, k.output.trans h.output, Nat.le_trans h.size k.size, fun i hi hn => (k.block i (Nat.lt_of_lt_of_le hi h.size) hn).trans (h.block i hi hn)⟩
/-- What turns on the way may be new. -/
theorem Chg.andThen {bs cs : List Nat} {a b c : World} (h : Chg bs a b) (k : Chg cs b c) (hn : ∀ x ∈ cs, x ∈ bs ∨ a.heap.size ≤ x) : Chg bs a c :=
  ⟨k.os.trans h.os, k.tape.trans h.tape, k.output.trans h.output, Nat.le_trans h.size k.size, fun i hi hb => by
    rw [k.block i (Nat.lt_of_lt_of_le hi h.size) (fun hx => by rcases hn i hx with e | e; exact hb e; omega)]
    exact h.block i hi hb⟩
theorem Chg.mono {bs cs : List Nat} {w w' : World} (h : Chg bs w w') (hs : ∀ x ∈ bs, x ∈ cs) : Chg cs w w' :=
  ⟨h.os, h.tape, h.output, h.size, fun k hk hn => h.block k hk fun hb => hn (hs k hb)⟩
theorem Chg.any {cs : List Nat} {w w' : World} (h : Chg [] w w') : Chg cs w w' := h.mono fun _ hx => by cases hx
theorem Chg.drew {bs : List Nat} {a w : World} (h : Chg bs a w) : Chg bs a w.drew := ⟨h.os, h.tape, h.output, h.size, h.block⟩
theorem Chg.alloc {bs : List Nat} {a w : World} (h : Chg bs a w) (o : Obj) : Chg bs a (w.alloc o) :=
  h.trans ⟨rfl, rfl, rfl, by simp, fun k hk _ => Below.heap_alloc _ _ _ hk⟩
theorem Chg.setCell {bs : List Nat} {a w : World} (h : Chg bs a w) {p : Addr} (hp : p.block ∈ bs ∨ a.heap.size ≤ p.block) (u : Value) : Chg bs a (w.setCell p u) :=
  ⟨h.os, h.tape, h.output, by simpa using h.size, fun k hk hn => by
    rw [Below.heap_setCell _ _ _ _ (by rintro rfl; rcases hp with hp | hp; exact hn hp; omega)]
    exact h.block k hk hn⟩
theorem Chg.below {bs : List Nat} {w w' : World} {B : Nat} (h : Chg bs w w') (hB : B ≤ w.heap.size) (hb : ∀ x ∈ bs, B ≤ x) : Below B w w' :=
  ⟨h.os, h.tape, h.output, h.size, fun k hk => h.block k (by omega) fun hx => by have := hb k hx; omega⟩
theorem Chg.keep {bs : List Nat} {w w' : World} (h : Chg bs w w') {b : Nat} {o : Obj} (hb : w.heap[b]? = some o) (hn : b ∉ bs) : w'.heap[b]? = some o := by
  rw [h.block b (Array.getElem?_eq_some_iff.1 hb).1 hn, hb]
theorem Chg.grown {w w' : World} {o : Option Nat} (h : w.grownBy w' o) : Chg (match o with | none => [] | some b => [b]) w w' :=
  ⟨h.os, h.tape, h.output, h.size, fun k hk hn => h.block k hk (by intro e; subst e; simp at hn)⟩
theorem heap_setBlock_other {w : World} {r b : Nat} (o : Obj) (h : r ≠ b) : (setBlock w b o).heap[r]? = w.heap[r]? := by
  simp [ChangeMaps.setBlock, Array.getElem?_setIfInBounds_ne (Ne.symm h)]
theorem heap_setBlock_at {w : World} {b : Nat} {ob : Obj} (hb : w.heap[b]? = some ob) (o : Obj) : (setBlock w b o).heap[b]? = some o := by
  have := (Array.getElem?_eq_some_iff.1 hb).1
  simp [ChangeMaps.setBlock, this]
theorem Chg.setBlock {w : World} {b : Nat} (o : Obj) {ob : Obj} (hb : w.heap[b]? = some ob) : Chg [b] w (setBlock w b o) :=
  ⟨rfl, rfl, rfl, by simp [ChangeMaps.setBlock], fun i _ hi => heap_setBlock_other _ (fun e => hi (by simp [e]))⟩
theorem lt_of {w : World} {b : Nat} {o : Obj} (hb : w.heap[b]? = some o) : b < w.heap.size := (Array.getElem?_eq_some_iff.1 hb).1

theorem cell_of {w : World} {b i : Nat} {cs : Array Value} {t : TypeId} {v : Value} (hb : w.heap[b]? = some (.cells cs t (0, 0))) (hi : cs[i]? = some v) : w.cell? ⟨b, i, none⟩ = some v := by
  simp [World.cell?, hb, hi]
theorem frozen_of {w : World} {b i : Nat} {cs : Array Value} {t : TypeId} (hb : w.heap[b]? = some (.cells cs t (0, 0))) : w.frozen? ⟨b, i, none⟩ = false := by
  simp [World.frozen?, hb]
abbrev pt (p : Nat) : Value := .pointer (some ⟨p, 0, none⟩)
def intOf : Value → Int | .int _ q => q | _ => 0

theorem law3 : Keyed Try.prog 3 := int_keyed Try.underlying3
theorem key_of (k : Nat) (hk : k < 8) : keyOf Try.prog 3 (.int .i64 k) = some (.int .i64 k) :=
  keyOf_int_mk Try.underlying3 (by simp [Lit.wf, IntKind.min, IntKind.max, IntKind.bits, IntKind.signed]; omega)

/-- The number of an entry's key. -/
def kn (e : MapEntry) : Nat := match e.key with | .int _ x => x.toNat | _ => 0

/-- The entries of a map keyed by nodes. -/
structure Ent (es : Array MapEntry) (clock : Nat) : Prop where
  key : ∀ e ∈ es.toList, e.key = .int .i64 (kn e : Nat) ∧ kn e < 8
  one : (es.toList.map kn).Nodup
  born : ∀ e ∈ es.toList, e.born < clock
  stamp : (es.toList.map (·.born)).Nodup

theorem Ent.find {es : Array MapEntry} {clock : Nat} (h : Ent es clock) (w : World) (k : Nat) (hk : k < 8) :
    ((Instr.findKey 3 (.int .i64 k) es.toList).run Try.prog w = .ok none w ∧ ∀ e ∈ es.toList, kn e ≠ k) ∨
    ∃ j e, (Instr.findKey 3 (.int .i64 k) es.toList).run Try.prog w = .ok (some (j, e.val)) w ∧ es.toList[j]? = some e ∧ kn e = k := by
  rcases law3.find w (key_of k hk) es.toList (fun e he => by rw [(h.key e he).1]; exact ⟨_, key_of _ (h.key e he).2⟩) with ⟨h1, h2⟩ | ⟨j, e, h1, h2, h3⟩
  · refine Or.inl ⟨h1, fun e he hke => h2 e he ?_⟩
    rw [(h.key e he).1, hke]
  · refine Or.inr ⟨j, e, h1, h2, ?_⟩
    unfold kn
    rw [h3]
    simp

theorem run_look {w : World} {b t el : Nat} {es : Array MapEntry} {clock : Nat} (hb : w.heap[b]? = some (.map es clock)) (h : Ent es clock) (ht : Try.prog.underlying t = some (.map 3 el)) {z : Value} (hz : (zeroValue el).run Try.prog w = .ok z w) (k : Nat) (hk : k < 8) :
    ((Instr.lookup t (.map (some b)) (.int .i64 k) false).run Try.prog w = .ok z w ∧ ∀ e ∈ es.toList, kn e ≠ k) ∨
    ∃ e ∈ es.toList, kn e = k ∧ (Instr.lookup t (.map (some b)) (.int .i64 k) false).run Try.prog w = .ok e.val w := by
  rcases h.find w k hk with ⟨h1, h2⟩ | ⟨j, e, h1, h2, h3⟩
  · left
    refine ⟨?_, h2⟩
    simp [Instr.lookup, run_underlying ht, MapKept.run_getObj_map hb, law3.check w _ (key_of k hk), h1, Result.andThen, hz]
  · right
    refine ⟨e, List.mem_of_getElem? h2, h3, ?_⟩
    simp [Instr.lookup, run_underlying ht, MapKept.run_getObj_map hb, law3.check w _ (key_of k hk), h1, Result.andThen]

theorem run_setObj_map {w : World} {b : Nat} {es : Array MapEntry} {c : Nat} (hb : w.heap[b]? = some (.map es c)) (o' : Obj) : (setObj b o').run Try.prog w = .ok () (setBlock w b o') := by
  simp [setObj, Sem.run, hb, ChangeMaps.setBlock]

theorem modify_set {es : Array MapEntry} {j : Nat} {e e' : MapEntry} (f : MapEntry → MapEntry) (hj : es.toList[j]? = some e) (hf : f e = e') : (es.modify j f).toList = es.toList.set j e' := by
  rw [Array.toList_modify]
  apply List.ext_getElem?
  intro i
  rw [List.getElem?_modify, List.getElem?_set]
  by_cases hij : j = i
  · subst hij
    have hlt := (List.getElem?_eq_some_iff.1 hj).1
    rw [if_pos rfl, if_pos hlt, hj]
    simp [hf]
  · simp [hij]

/-- 'm[k] = v'. -/
theorem run_put {w : World} {b t el : Nat} {es : Array MapEntry} {clock : Nat} (hb : w.heap[b]? = some (.map es clock)) (h : Ent es clock) (ht : Try.prog.underlying t = some (.map 3 el)) (k : Nat) (hk : k < 8) (v : Value) :
    ∃ w' es' clock', (Instr.mapUpdate t (.map (some b)) (.int .i64 k) v).run Try.prog w = .ok () w' ∧ w'.heap[b]? = some (.map es' clock') ∧ Chg [b] w w' ∧ w'.heap.size = w.heap.size ∧
      (((∃ j e, es.toList[j]? = some e ∧ kn e = k ∧ es'.toList = es.toList.set j { e with val := v }) ∧ clock' = clock) ∨ ((∀ e ∈ es.toList, kn e ≠ k) ∧ es' = es.push ⟨.int .i64 k, v, clock⟩ ∧ clock' = clock + 1)) := by
  rcases h.find w k hk with ⟨h1, h2⟩ | ⟨j, e, h1, h2, h3⟩
  · refine ⟨setBlock w b (.map (es.push ⟨.int .i64 k, v, clock⟩) (clock + 1)), _, _, ?_, ChangeMaps.heap_setBlock_same hb _, Chg.setBlock _ hb, by simp [ChangeMaps.setBlock], Or.inr ⟨h2, rfl, rfl⟩⟩
    simp [Instr.mapUpdate, run_underlying ht, MapKept.run_getObj_map hb, law3.check w _ (key_of k hk), h1, Result.andThen, run_setObj_map hb]
  · have hlt := (List.getElem?_eq_some_iff.1 h2).1
    have hke : e.key = .int .i64 k := by rw [(h.key e (List.mem_of_getElem? h2)).1, h3]
    have hg : es[j]? = some e := by rw [← h2, Array.getElem?_toList]
    refine ⟨setBlock w b (.map (es.modify j fun e => { e with key := .int .i64 k, val := v }) clock), _, _, ?_, ChangeMaps.heap_setBlock_same hb _, Chg.setBlock _ hb, by simp [ChangeMaps.setBlock], Or.inl ⟨⟨j, e, h2, h3, modify_set _ h2 (by rw [hke])⟩, rfl⟩⟩
    have hst : (Instr.keyThatStays (.int .i64 k) (.int .i64 k)).run Try.prog w = .ok (.int .i64 k) w := law3.stays w (key_of k hk)
    simp [Instr.mapUpdate, run_underlying ht, MapKept.run_getObj_map hb, law3.check w _ (key_of k hk), h1, Result.andThen, run_setObj_map hb, hg, hke, hst]

theorem erase_filter {es : List MapEntry} {j : Nat} {e : MapEntry} (h1 : (es.map kn).Nodup) (hj : es[j]? = some e) : es.eraseIdx j = es.filter (fun x => decide (kn x ≠ kn e)) := by
  induction es generalizing j with
  | nil => simp at hj
  | cons a r ih =>
    rw [List.map_cons, List.nodup_cons] at h1
    cases j with
    | zero =>
      simp at hj
      subst hj
      simp only [List.eraseIdx_cons_zero, List.filter_cons]
      simp
      rw [List.filter_eq_self.2]
      intro x hx
      simp
      intro hxe
      exact h1.1 (by rw [← hxe]; exact List.mem_map_of_mem hx)
    | succ j =>
      simp at hj
      simp only [List.eraseIdx_cons_succ, List.filter_cons]
      have : kn a ≠ kn e := fun hae => h1.1 (by rw [hae]; exact List.mem_map_of_mem (List.mem_of_getElem? hj))
      simp [this, ih h1.2 hj]

/-- 'delete(m, k)'. -/
theorem run_del {w : World} {b t el : Nat} {es : Array MapEntry} {clock : Nat} (hb : w.heap[b]? = some (.map es clock)) (h : Ent es clock) (ht : Try.prog.underlying t = some (.map 3 el)) (k : Nat) (hk : k < 8) :
    ∃ w' es', (∀ ty, (Builtin.delete_ #[t, 3] ty #[.map (some b), .int .i64 k]).run Try.prog w = .ok (.tuple #[]) w') ∧ w'.heap[b]? = some (.map es' clock) ∧ Chg [b] w w' ∧ w'.heap.size = w.heap.size ∧ es'.toList = es.toList.filter (fun x => decide (kn x ≠ k)) := by
  rcases h.find w k hk with ⟨h1, h2⟩ | ⟨j, e, h1, h2, h3⟩
  · refine ⟨setBlock w b (.map es clock), es, ?_, ChangeMaps.heap_setBlock_same hb _, Chg.setBlock _ hb, by simp [ChangeMaps.setBlock], ?_⟩
    · intro ty
      simp [Builtin.delete_, run_underlying ht, MapKept.run_getObj_map hb, law3.check w _ (key_of k hk), h1, Result.andThen, run_setObj_map hb]
    · rw [List.filter_eq_self.2]
      intro x hx
      simpa using h2 x hx
  · have hlt := (List.getElem?_eq_some_iff.1 h2).1
    refine ⟨setBlock w b (.map (es.eraseIdxIfInBounds j) clock), _, ?_, ChangeMaps.heap_setBlock_same hb _, Chg.setBlock _ hb, by simp [ChangeMaps.setBlock], ?_⟩
    · intro ty
      simp [Builtin.delete_, run_underlying ht, MapKept.run_getObj_map hb, law3.check w _ (key_of k hk), h1, Result.andThen, run_setObj_map hb]
    · have hs : j < es.size := by simpa using hlt
      rw [Array.eraseIdxIfInBounds, dif_pos hs, Array.toList_eraseIdx, erase_filter h.one h2, h3]

theorem run_len {w : World} {b t kt el : Nat} {es : Array MapEntry} {clock : Nat} (hb : w.heap[b]? = some (.map es clock)) (ht : Try.prog.underlying t = some (.map kt el)) (ty : TypeId) :
    (Builtin.len_ #[t] ty #[.map (some b)]).run Try.prog w = .ok (.int .i64 es.size) w := by
  simp [Builtin.len_, run_underlying ht, MapKept.run_getObj_map hb, goInt]

/-- 'next', entries laid in or struck since the loop began: EITHER every entry that was there at the start has been handed out; OR one entry that has not comes out. -/
theorem run_next_any (w : World) (r bm since c0 : Nat) (seen : Array Nat) (es : Array MapEntry) (clock : Nat)
    (hr : w.heap[r]? = some (.mapIter (some bm) since seen c0)) (hb : w.heap[bm]? = some (.map es clock)) (hne : r ≠ bm) (hold : seen.size = 0 ∨ es.size = 0 ∨ ∃ e ∈ es.toList, e.born < c0) :
    ((∀ e ∈ es.toList, e.born < since → e.born ∈ seen) ∧ ∃ w', (w' = w ∨ w' = w.drew) ∧ ∀ ty, (Instr.next (.pointer (some ⟨r, 0, none⟩)) false ty).run Try.prog w = .ok (.tuple #[.bool false]) w') ∨
    ∃ e ∈ es.toList, e.born ∉ seen ∧ ∃ w', (∀ ty, (Instr.next (.pointer (some ⟨r, 0, none⟩)) false ty).run Try.prog w = .ok (.tuple #[.bool true, e.key, e.val]) w') ∧ w'.heap[r]? = some (.mapIter (some bm) since (seen.push e.born) clock) ∧ w'.heap[bm]? = some (.map es clock) ∧ Chg [r] w w' ∧ w'.heap.size = w.heap.size := by
  have ht : (!seen.isEmpty && !es.isEmpty && es.all (fun x => decide (x.born ≥ c0))) = false := by
    rcases hold with h | h | ⟨e, he, hlt⟩
    · have : seen = #[] := Array.eq_empty_of_size_eq_zero h
      subst this; simp
    · have : es = #[] := Array.eq_empty_of_size_eq_zero h
      subst this; simp
    · have : es.all (fun x => decide (x.born ≥ c0)) = false := by
        rw [Bool.eq_false_iff]
        intro h
        rw [Array.all_eq_true_iff_forall_mem] at h
        have := h e (by simpa using he)
        simp at this
        omega
      simp [this]
  simp only [Instr.next, getObj, Sem.run_bind, Sem.run, hr, hb, Result.andThen, ht, Bool.false_eq_true, if_false]
  have key : ∀ e, (some e) ∈ ((Array.filter (fun x => decide (x.born < since)) (Array.filter (fun e => !seen.contains e.born) es) ++ Array.filter (fun x => decide (x.born ≥ since)) (Array.filter (fun e => !seen.contains e.born) es)).map some) → e ∈ es.toList ∧ e.born ∉ seen := by
    intro e he
    simp at he
    rcases he with he | he
    · exact ⟨by simpa using he.1, he.2.2⟩
    · exact ⟨by simpa using he.1, he.2.2⟩
  have hfin : (Array.filter (fun x => decide (x.born < since)) (Array.filter (fun e => !seen.contains e.born) es)).isEmpty = true → ∀ e ∈ es.toList, e.born < since → e.born ∈ seen := by
    intro h0 e he hs
    rw [Array.isEmpty_iff] at h0
    apply Classical.byContradiction
    intro hns
    have : e ∈ Array.filter (fun x => decide (x.born < since)) (Array.filter (fun e => !seen.contains e.born) es) := by
      simp
      exact ⟨by simpa using he, hs, hns⟩
    rw [h0] at this
    simp at this
  generalize hO : Array.filter (fun x => decide (x.born < since)) (Array.filter (fun e => !seen.contains e.born) es) = O at key hfin ⊢
  generalize hN : Array.filter (fun x => decide (x.born ≥ since)) (Array.filter (fun e => !seen.contains e.born) es) = N at key ⊢
  generalize hC : (if O.isEmpty = true then #[none] else #[]) ++ Array.map some (O ++ N) = C
  have hpos : 0 < C.size := by
    rw [← hC]
    cases ho : O.isEmpty with
    | true => simp; omega
    | false =>
      have : O.size ≠ 0 := by intro h; simp [Array.isEmpty, h] at ho
      simp
      omega
  have hch : ∃ (j : Nat) (w1 : World), j < C.size ∧ (w1 = w ∨ w1 = w.drew) ∧ (choose (Question.mapNext C.size)).run Try.prog w = .ok j w1 := by
    by_cases hf : C.size ≤ 1
    · exact ⟨0, w, by omega, Or.inl rfl, by simp [choose, Sem.run, Question.forced, hf]⟩
    · exact ⟨_, w.drew, Nat.mod_lt _ (by omega), Or.inr rfl, by
        simp only [choose, Sem.run, Question.forced, decide_eq_true_eq, hf, if_false, Question.cut]
        rfl⟩
  obtain ⟨j, w1, hj, hal, hrun⟩ := hch
  have hr1 : w1.heap[r]? = some (.mapIter (some bm) since seen c0) := by rcases hal with rfl | rfl <;> exact hr
  have hb1 : w1.heap[bm]? = some (.map es clock) := by rcases hal with rfl | rfl <;> exact hb
  have hc1 : Chg [r] w w1 := by rcases hal with rfl | rfl; exact Chg.refl _ _; exact (Chg.refl _ _).drew
  have hs1 : w1.heap.size = w.heap.size := by rcases hal with rfl | rfl <;> rfl
  have hmem : C[j] ∈ C := Array.getElem_mem hj
  cases hcj : C[j] with
  | none =>
    left
    have ho : O.isEmpty = true := by
      cases ho : O.isEmpty with
      | true => rfl
      | false =>
        rw [hcj, ← hC, ho] at hmem
        simp at hmem
    refine ⟨hfin ho, w1, hal, fun ty => ?_⟩
    simp only [hrun, Array.getElem?_eq_getElem hj, hcj]
    rfl
  | some e =>
    right
    have he := key e (by
      rw [hcj, ← hC] at hmem
      rw [Array.mem_append] at hmem
      rcases hmem with h | h
      · exfalso
        split at h <;> simp at h
      · exact h)
    refine ⟨e, he.1, he.2, setBlock w1 r (.mapIter (some bm) since (seen.push e.born) clock), fun ty => ?_, heap_setBlock_at hr1 _, ?_, hc1.trans (Chg.setBlock _ hr1), by simp [ChangeMaps.setBlock, hs1]⟩
    · simp only [hrun, Array.getElem?_eq_getElem hj, hcj]
      have := run_setObj_at (P := Try.prog) hr1 (.mapIter (some bm) since (seen.push e.born) clock)
      simp only [Sem.run_bind, this, Result.andThen]
      rfl
    · rw [heap_setBlock_other _ (fun e => hne e.symm)]
      exact hb1
end Go.Proofs.Qxb6500374a.W
