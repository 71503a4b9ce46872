import Derived.Test.Qxb6500371aEvC
import Derived.Laws.CopyRow
set_option linter.unusedSimpArgs false
set_option linter.unusedVariables false
namespace Go.Rel
section
variable {P : Program} {E : Env} {w0 : World}

theorem mk_cells (hN : E.N = w0.heap.size) {h : List Obj} {d b : Nat} {c : Array Value} {t : TypeId} {fr : Nat × Nat} (hb : h[b]? = some (.cells c t fr)) :
    (mk E w0 h d).heap[E.N + b]? = some (.cells (c.map (sh E)) t fr) := by
  rw [mk_get E hN, hb]; rfl

theorem mk_map (hN : E.N = w0.heap.size) {h : List Obj} {d b : Nat} {es : Array MapEntry} {c : Nat} (hb : h[b]? = some (.map es c)) :
    (mk E w0 h d).heap[E.N + b]? = some (.map (es.map (shE E)) c) := by
  rw [mk_get E hN, hb]; rfl

theorem mk_iter (hN : E.N = w0.heap.size) {h : List Obj} {d b m s : Nat} {seen : Array Nat} {st : Nat} (hb : h[b]? = some (.mapIter (some m) s seen st)) :
    (mk E w0 h d).heap[E.N + b]? = some (.mapIter (some (E.N + m)) s seen st) := by
  rw [mk_get E hN, hb]; rfl

theorem mk_setRow (hN : E.N = w0.heap.size) {h : List Obj} {d b : Nat} {c : Array Value} {t : TypeId} {fr : Nat × Nat} (hb : h[b]? = some (.cells c t fr)) (l : List Value) :
    (mk E w0 h d).setRow (E.N + b) ((l.map (sh E)).toArray) = mk E w0 (h.set b (.cells ⟨l⟩ t fr)) d := by
  rw [← mk_set E hN]
  unfold World.setRow
  congr 1
  have hg := mk_cells (d := d) hN hb
  have hlt : E.N + b < (mk E w0 h d).heap.size := (Array.getElem?_eq_some_iff.1 hg).1
  apply Array.ext_getElem?
  intro i
  rw [Array.getElem?_modify, Array.getElem?_setIfInBounds]
  by_cases hi : E.N + b = i
  · subst hi
    have hg' : (mk E w0 h d).heap[E.N + b] = .cells (Array.map (sh E) c) t fr := (Array.getElem?_eq_some_iff.1 hg).2
    simp [hlt, shO, hg']
  · simp [hi]

theorem rd_run (hN : E.N = w0.heap.size) {h : List Obj} {d : Nat} {a : Addr} {n : Nat} {vs : List Value} (hr : rd h a n = some vs) :
    (loadCells (shA E a) n).run P (mk E w0 h d) = .ok ((vs.map (sh E)).toArray) (mk E w0 h d) := by
  unfold rd at hr
  split at hr
  · rename_i c t fr hs hb
    split at hr
    · rename_i hle
      cases hr
      have hl : n = (((c.toList.drop a.off).take n).map (sh E)).length := by simp; simp at hle; omega
      conv => lhs; rw [hl]
      apply run_loadCells_list
      intro j v hv
      rw [add_sh a j hs]
      have hj : j < n := by
        have := (List.getElem?_eq_some_iff.1 hv).1
        omega
      simp only [World.cell?, shA, addrAdd, mk_cells hN hb]
      simp only [List.getElem?_map, List.getElem?_take, hj, if_true, List.getElem?_drop] at hv
      simpa using hv
    · cases hr
  · cases hr

theorem load_run (hN : E.N = w0.heap.size) {h : List Obj} {d : Nat} {t : TypeId} {a : Addr} {v : Value} (hr : loadR P h t a = some v) :
    (loadVar t (shA E a)).run P (mk E w0 h d) = .ok (sh E v) (mk E w0 h d) := by
  unfold loadR at hr
  split at hr
  · rename_i dsc n hd hn
    simp only [loadVar, Sem.run_bind, run_agg hd, Result.andThen_ok]
    split at hr
    · rename_i ha
      split at hr
      · rename_i vs hvs
        cases hr
        simp only [ha, if_true, Sem.run_bind, run_size hn, Result.andThen_ok, rd_run hN hvs, Sem.run_pure, sh_agg, arr_map]
      · cases hr
    · rename_i ha
      simp only [ha, if_false, Bool.false_eq_true]
      split at hr
      · rename_i v' hvs
        cases hr
        unfold rd at hvs
        split at hvs
        · rename_i c t' fr hs hb
          split at hvs
          · rename_i hle
            have hv : c[a.off]? = some v := by
              have := congrArg (fun l => l[0]?) (Option.some.inj hvs)
              simpa [List.getElem?_take, List.getElem?_drop] using this
            rw [run_load]
            have hc : (mk E w0 h d).cell? (shA E a) = some (sh E v) := by
              simp [World.cell?, shA, mk_cells hN hb, hs, hv]
            rw [hc]
          · cases hvs
        · cases hvs
      · cases hr
  · cases hr

theorem flat_one (v : Value) : v.oneCell' = flatV v := by cases v <;> rfl

theorem wr_run (hN : E.N = w0.heap.size) {h h' : List Obj} {d : Nat} {a : Addr} {vs : List Value} (hr : wr h a vs = some h') :
    (storeCells (shA E a) (vs.map (sh E))).run P (mk E w0 h d) = .ok () (mk E w0 h' d) := by
  unfold wr at hr
  split at hr
  · rename_i c t fr hs hb
    split at hr
    · rename_i hc
      obtain ⟨rfl, hle, hf⟩ := hc
      cases hr
      have h1 := run_storeCells_at P (E.N + a.block) a.off t (vs.map (sh E)) 0 (c.map (sh E)) (mk E w0 h d) (mk_cells hN hb) (by simpa using hle)
        (by
          intro v hv
          simp only [List.mem_map] at hv
          obtain ⟨u, hu, rfl⟩ := hv
          rw [flat_one, flat_sh]
          exact List.all_eq_true.1 hf u hu)
      have e : shA E a = ⟨E.N + a.block, a.off, none⟩ := by simp [shA, hs]
      rw [e, h1]
      congr 1
      rw [← mk_setRow hN hb, splice_map]
      simp [splice]
    · cases hr
  · cases hr

theorem store_run (hN : E.N = w0.heap.size) {h h' : List Obj} {d : Nat} {t : TypeId} {a : Addr} {v : Value} (hr : storeR P h t a v = some h') :
    (storeVar t (shA E a) (sh E v)).run P (mk E w0 h d) = .ok () (mk E w0 h' d) := by
  unfold storeR at hr
  split at hr
  · rename_i n hn
    split at hr
    · rename_i hl
      simp only [storeVar, Sem.run_bind, run_size hn, Result.andThen_ok, cells_eq, cellsL_sh]
      rw [if_neg (by simp [hl])]
      exact wr_run hN hr
    · cases hr
  · cases hr

/-! ### maps -/
theorem find_now {k : Value} (kd : IntKind) : ∀ {es : List MapEntry} {i : Nat} {r : Option (Nat × Value)}, findR k es i = some r →
    Instr.findNow (.int kd) (sh E k) (es.map (shE E)) i = some (r.map fun x => (x.1, sh E x.2)) := by
  intro es
  induction es with
  | nil => intro i r h; simp only [findR, Option.some.injEq] at h; subst h; simp [Instr.findNow]
  | cons e es ih =>
    intro i r h
    simp only [findR] at h
    have hs : ∀ b, sameK k e.key = some b → Instr.sameNow (.int kd) (sh E k) (shE E e).key = some b := by
      intro b hb
      unfold sameK at hb
      split at hb
      · rename_i k1 a k2 c e1
        split at hb
        · rename_i hkk
          cases hb
          simp [shE, e1, sh_int, Instr.sameNow, hkk]
        · cases hb
      · cases hb
    split at h
    · rename_i hb
      cases h
      simp only [List.map_cons, Instr.findNow, hs _ hb]
      rfl
    · rename_i hb
      simp only [List.map_cons, Instr.findNow, hs _ hb]
      exact ih h
    · cases h

theorem isInt_some {t : TypeId} (h : isIntT P t = true) : ∃ kd, tyU P t = some (.int kd) := by
  unfold isIntT at h
  split at h
  · rename_i kd hk; exact ⟨kd, hk⟩
  · cases h

theorem find_run {kt : TypeId} {k : Value} {es : Array MapEntry} {r : Option (Nat × Value)} (hk : isIntT P kt = true) (h : findR k es.toList 0 = some r) (w : World) :
    (Instr.findKey kt (sh E k) ((es.map (shE E)).toList)).run P w = .ok (r.map fun x => (x.1, sh E x.2)) w := by
  obtain ⟨kd, hu⟩ := isInt_some hk
  simp only [Instr.findKey, Sem.run_bind, run_under hu, Result.andThen_ok, Array.toList_map, find_now kd h, Sem.run_pure]

theorem key_run {kt : TypeId} (hk : isIntT P kt = true) (b : Bool) (n : Nat) (v : Value) (w : World) : (Instr.checkKey b (n + 1) kt v).run P w = .ok () w := by
  obtain ⟨kd, hu⟩ := isInt_some hk
  simp [Instr.checkKey, run_under hu]

theorem getObj_map (hN : E.N = w0.heap.size) {h : List Obj} {d b : Nat} {es : Array MapEntry} {c : Nat} (hb : h[b]? = some (.map es c)) :
    (getObj (E.N + b)).run P (mk E w0 h d) = .ok (.map (es.map (shE E)) c) (mk E w0 h d) := by
  simp [getObj, Sem.run, mk_map hN hb]

theorem getObj_iter (hN : E.N = w0.heap.size) {h : List Obj} {d b m s : Nat} {seen : Array Nat} {st : Nat} (hb : h[b]? = some (.mapIter (some m) s seen st)) :
    (getObj (E.N + b)).run P (mk E w0 h d) = .ok (.mapIter (some (E.N + m)) s seen st) (mk E w0 h d) := by
  simp [getObj, Sem.run, mk_iter hN hb]

theorem setObj_map (hN : E.N = w0.heap.size) {h : List Obj} {d b : Nat} {es : Array MapEntry} {c : Nat} (hb : h[b]? = some (.map es c)) (o : Obj) :
    (setObj (E.N + b) (shO E o)).run P (mk E w0 h d) = .ok () (mk E w0 (h.set b o) d) := by
  simp only [setObj, Sem.run, mk_map hN hb]
  rw [← mk_set E hN]

theorem setObj_iter (hN : E.N = w0.heap.size) {h : List Obj} {d b m s : Nat} {seen : Array Nat} {st : Nat} (hb : h[b]? = some (.mapIter (some m) s seen st)) (o : Obj) :
    (setObj (E.N + b) (shO E o)).run P (mk E w0 h d) = .ok () (mk E w0 (h.set b o) d) := by
  simp only [setObj, Sem.run, mk_iter hN hb]
  rw [← mk_set E hN]

theorem find_lt {k : Value} : ∀ {es : List MapEntry} {i j : Nat} {v : Value}, findR k es i = some (some (j, v)) → ∃ m e, j = i + m ∧ es[m]? = some e ∧ sameK k e.key = some true := by
  intro es
  induction es with
  | nil => intro i j v h; simp [findR] at h
  | cons e es ih =>
    intro i j v h
    simp only [findR] at h
    split at h
    · rename_i hb; cases h; exact ⟨0, e, by simp, by simp, hb⟩
    · obtain ⟨m, e', h1, h2, h3⟩ := ih h
      exact ⟨m + 1, e', by omega, by simpa using h2, h3⟩
    · cases h

/-- What a step of memory comes to. -/
def Done (P : Program) (E : Env) (w0 : World) (ev : Operand → Value) (o : Oper) (h : List Obj) (d : Nat) (outs : Outs) : Prop :=
  ∃ v h' d' nx, (v, h') ∈ outs ∧ (execOp ev o).run P (mk E w0 h d) = .ok nx (mk E w0 h' d') ∧ (nx = .value (sh E v) ∨ (nx = .skip ∧ v = undef))

theorem done_one {ev : Operand → Value} {o : Oper} {h h' : List Obj} {d : Nat} {v : Value} {outs : Outs} (he : one v h' = some outs)
    (hr : (execOp ev o).run P (mk E w0 h d) = .ok (.value (sh E v)) (mk E w0 h' d)) : Done P E w0 ev o h d outs := by
  cases he
  exact ⟨v, h', d, _, by simp, hr, .inl rfl⟩

theorem done_skip {ev : Operand → Value} {o : Oper} {h h' : List Obj} {d : Nat} {outs : Outs} (he : one undef h' = some outs)
    (hr : (execOp ev o).run P (mk E w0 h d) = .ok .skip (mk E w0 h' d)) : Done P E w0 ev o h d outs := by
  cases he
  exact ⟨undef, h', d, _, by simp, hr, .inr ⟨rfl, rfl⟩⟩

theorem new_run (hN : E.N = w0.heap.size) (h : List Obj) (d : Nat) (l : List Value) (t : TypeId) :
    (newRow t ((l.map (sh E)).toArray)).run P (mk E w0 h d) = .ok (shA E ⟨h.length, 0, none⟩) (mk E w0 (newR h (.cells ⟨l⟩ t (0, 0))) d) := by
  simp only [newRow, Sem.run_bind, run_newObj, Result.andThen_ok, Sem.run_pure, mk_size E hN]
  congr 1
  unfold newR
  rw [← mk_push]
  simp [shO]
end
end Go.Rel
