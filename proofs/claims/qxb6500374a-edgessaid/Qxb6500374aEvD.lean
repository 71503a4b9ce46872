import Derived.Test.Qxb6500374aEvC
import Derived.Laws.CopyRow
set_option linter.unusedSimpArgs false
set_option linter.unusedVariables false
namespace Go.Rel
section
variable {P : Program} {E : Env} {w0 : World}

theorem mk_cells (hN : E.N = w0.heap.size) {h : List Obj} {d b : Nat} {c : Array Value} {t : TypeId} {fr : Nat × Nat} (hb : h[b]? = some (.cells c t fr)) :
    (mk E w0 h d).heap[E.N + b]? = some (.cells (c.map (sh E)) t fr) := by
  rw [mk_get E hN, hb]; rfl

theorem mk_map (hN : E.N = w0.heap.size) {h : List Obj} {d b : Nat} {es : Array MapEntry} {c : Nat} (hb : h[b]? = some (.map es c)) :
    (mk E w0 h d).heap[E.N + b]? = some (.map (es.map (shE E)) c) := by
  rw [mk_get E hN, hb]; rfl

theorem mk_iter (hN : E.N = w0.heap.size) {h : List Obj} {d b s st : Nat} {m : Option Nat} {seen : Array Nat} (hb : h[b]? = some (.mapIter m s seen st)) :
    (mk E w0 h d).heap[E.N + b]? = some (E.ob b) := by
  rw [mk_get E hN, hb]; rfl

theorem mk_chan (hN : E.N = w0.heap.size) {h : List Obj} {d b i x1 : Nat} {c : Array Value} {x0 x2 : Bool} {t : Nat} (hb : h[b]? = some (.chan i c x0 t x1 x2)) :
    (mk E w0 h d).heap[E.N + b]? = some (.cells (c.map (sh E) ++ Array.replicate (E.cap i - c.size) (.int .i64 0)) t (0, 0)) := by
  rw [mk_get E hN, hb]; rfl

theorem mk_setRow (hN : E.N = w0.heap.size) {h : List Obj} {d b : Nat} {c c' : Array Value} {t : TypeId} {fr : Nat × Nat} (hb : (mk E w0 h d).heap[E.N + b]? = some (.cells c t fr)) (o : Obj) (ho : shO E b o = .cells c' t fr) :
    (mk E w0 h d).setRow (E.N + b) c' = mk E w0 (h.set b o) d := by
  rw [← mk_set E hN]
  unfold World.setRow
  congr 1
  obtain ⟨hlt, hg'⟩ := Array.getElem?_eq_some_iff.1 hb
  apply Array.ext_getElem?
  intro i
  rw [Array.getElem?_modify, Array.getElem?_setIfInBounds]
  by_cases hi : E.N + b = i
  · subst hi
    simp [hlt, ho, hg']
  · simp [hi]

theorem rd_cell (hN : E.N = w0.heap.size) {h : List Obj} {d : Nat} {a : Addr} {n : Nat} {vs : List Value} (hr : rd h a n = some vs) :
    a.spot = none ∧ vs.length = n ∧ ∀ j v, vs[j]? = some v → (mk E w0 h d).cell? (shA E (addrAdd a j)) = some (sh E v) := by
  unfold rd at hr
  split at hr
  · rename_i c t fr hs hb
    split at hr
    · rename_i hle
      cases hr
      refine ⟨hs, by simp; simp at hle; omega, fun j v hv => ?_⟩
      have hj : j < n := by
        have := (List.getElem?_eq_some_iff.1 hv).1
        simp at this; omega
      simp only [World.cell?, shA, addrAdd, mk_cells hN hb]
      simp only [List.getElem?_take, hj, if_true, List.getElem?_drop] at hv
      simp at hv
      simp [hv]
    · cases hr
  · rename_i i c x0 t x1 x2 hs hb
    split at hr
    · rename_i hle
      cases hr
      refine ⟨hs, by simp; simp at hle; omega, fun j v hv => ?_⟩
      have hj : j < n := by
        have := (List.getElem?_eq_some_iff.1 hv).1
        simp at this; omega
      simp only [World.cell?, shA, addrAdd, mk_chan hN hb]
      simp only [List.getElem?_take, hj, if_true, List.getElem?_drop] at hv
      simp at hv
      have hlt : a.off + j < c.size := by
        have := (Array.getElem?_eq_some_iff.1 hv).1
        exact this
      have e : (c.map (sh E) ++ Array.replicate (E.cap i - c.size) (.int .i64 0))[a.off + j]? = some (sh E v) := by
        rw [Array.getElem?_append_left (by simpa using hlt)]
        simp [hv]
      simpa using e
    · cases hr
  · cases hr

theorem rd_run (hN : E.N = w0.heap.size) {h : List Obj} {d : Nat} {a : Addr} {n : Nat} {vs : List Value} (hr : rd h a n = some vs) :
    (loadCells (shA E a) n).run P (mk E w0 h d) = .ok ((vs.map (sh E)).toArray) (mk E w0 h d) := by
  obtain ⟨hs, hl, hc⟩ := rd_cell (E := E) (w0 := w0) (d := d) hN hr
  have hl : n = (vs.map (sh E)).length := by simp [hl]
  conv => lhs; rw [hl]
  apply run_loadCells_list
  intro j v hv
  rw [add_sh a j hs]
  simp only [List.getElem?_map, Option.map_eq_some_iff] at hv
  obtain ⟨u, hu, rfl⟩ := hv
  exact hc j u hu

theorem load_run (hN : E.N = w0.heap.size) {h : List Obj} {d : Nat} {t : TypeId} {a : Addr} {v : Value} (hr : loadR P h t a = some v) :
    (loadVar t (shA E a)).run P (mk E w0 h d) = .ok (sh E v) (mk E w0 h d) := by
  unfold loadR at hr
  split at hr
  · rename_i dsc n hd hn
    simp only [loadVar, Sem.run_bind, run_agg hd, Result.andThen_ok]
    split at hr
    · rename_i ha
      split at hr
      · rename_i vs hvs
        cases hr
        simp only [ha, if_true, Sem.run_bind, run_size hn, Result.andThen_ok, rd_run hN hvs, Sem.run_pure, sh_agg, arr_map]
      · cases hr
    · rename_i ha
      simp only [ha, if_false, Bool.false_eq_true]
      split at hr
      · rename_i v' hvs
        cases hr
        obtain ⟨hs, hl, hc⟩ := rd_cell (E := E) (w0 := w0) (d := d) hN hvs
        have := hc 0 v (by simp)
        rw [run_load]
        have e : shA E (addrAdd a 0) = shA E a := by
          obtain ⟨b, o, sp⟩ := a
          simp only at hs
          subst hs
          rfl
        rw [e] at this
        rw [this]
      · cases hr
  · cases hr

theorem flat_one (v : Value) : v.oneCell' = flatV v := by cases v <;> rfl

theorem wr_run (hN : E.N = w0.heap.size) {h h' : List Obj} {d : Nat} {a : Addr} {vs : List Value} (hr : wr h a vs = some h') :
    (storeCells (shA E a) (vs.map (sh E))).run P (mk E w0 h d) = .ok () (mk E w0 h' d) := by
  unfold wr at hr
  split at hr
  · rename_i c t fr hs hb
    split at hr
    · rename_i hc
      obtain ⟨rfl, hle, hf⟩ := hc
      cases hr
      have h1 := run_storeCells_at P (E.N + a.block) a.off t (vs.map (sh E)) 0 (c.map (sh E)) (mk E w0 h d) (mk_cells hN hb) (by simpa using hle)
        (by
          intro v hv
          simp only [List.mem_map] at hv
          obtain ⟨u, hu, rfl⟩ := hv
          rw [flat_one, flat_sh]
          exact List.all_eq_true.1 hf u hu)
      have e : shA E a = ⟨E.N + a.block, a.off, none⟩ := by simp [shA, hs]
      rw [e, h1]
      congr 1
      refine mk_setRow hN (mk_cells hN hb) _ ?_
      simp only [shO]
      congr 1
      rw [← Array.toList_inj]
      simp only [Array.toList_map, splice_map]
      simp [splice]
    · cases hr
  · rename_i i c x0 t x1 x2 hs hb
    split at hr
    · rename_i hc
      obtain ⟨hle, hf⟩ := hc
      cases hr
      have h1 := run_storeCells_at P (E.N + a.block) a.off t (vs.map (sh E)) 0 (c.map (sh E) ++ Array.replicate (E.cap i - c.size) (.int .i64 0)) (mk E w0 h d) (mk_chan hN hb) (by simp at hle ⊢; omega)
        (by
          intro v hv
          simp only [List.mem_map] at hv
          obtain ⟨u, hu, rfl⟩ := hv
          rw [flat_one, flat_sh]
          exact List.all_eq_true.1 hf u hu)
      have e : shA E a = ⟨E.N + a.block, a.off, none⟩ := by simp [shA, hs]
      rw [e, h1]
      congr 1
      refine mk_setRow hN (mk_chan hN hb) _ ?_
      simp only [shO]
      congr 1
      have hsz : (⟨splice c.toList a.off vs⟩ : Array Value).size = c.size := by
        have := splice_length hle
        simpa using this
      rw [hsz, ← Array.toList_inj]
      simp only [Array.toList_append, Array.toList_map, splice_map, Array.toList_replicate]
      have hl2 : a.off + vs.length ≤ c.toList.length := hle
      simp only [splice, Nat.add_zero, List.length_map, List.take_append, List.drop_append]
      rw [show a.off - c.toList.length = 0 by omega, show a.off + vs.length - c.toList.length = 0 by omega]
      simp
    · cases hr
  · cases hr

theorem store_run (hN : E.N = w0.heap.size) {h h' : List Obj} {d : Nat} {t : TypeId} {a : Addr} {v : Value} (hr : storeR P h t a v = some h') :
    (storeVar t (shA E a) (sh E v)).run P (mk E w0 h d) = .ok () (mk E w0 h' d) := by
  unfold storeR at hr
  split at hr
  · rename_i n hn
    split at hr
    · rename_i hl
      simp only [storeVar, Sem.run_bind, run_size hn, Result.andThen_ok, cells_eq, cellsL_sh]
      rw [if_neg (by simp [hl])]
      exact wr_run hN hr
    · cases hr
  · cases hr

/-! ### maps -/
theorem find_now {k : Value} (kd : IntKind) (hk : ∃ kk n, k = .int kk n) : ∀ {es : List MapEntry} {i : Nat} {r : Option (Nat × Value)}, findR k es i = some r →
    Instr.findNow (.int kd) (sh E k) (es.map (shE E)) i = some (r.map fun x => (x.1, sh E x.2)) := by
  obtain ⟨kk, n, rfl⟩ := hk
  intro es
  induction es with
  | nil => intro i r h; simp only [findR, Option.some.injEq] at h; subst h; simp [Instr.findNow]
  | cons e es ih =>
    intro i r h
    simp only [findR] at h
    have hs : ∀ b, sameK (.int kk n) e.key = some b → Instr.sameNow (.int kd) (sh E (.int kk n)) (shE E e).key = some b := by
      intro b hb
      unfold sameK at hb
      split at hb
      · rename_i k1 a k2 c e1 e2
        cases e1
        split at hb
        · rename_i hkk
          cases hb
          simp [shE, e2, sh_int, Instr.sameNow, hkk]
        · cases hb
      · rename_i e1 _; cases e1
      · cases hb
    split at h
    · rename_i hb
      cases h
      simp only [List.map_cons, Instr.findNow, hs _ hb]
      rfl
    · rename_i hb
      simp only [List.map_cons, Instr.findNow, hs _ hb]
      exact ih h
    · cases h

theorem equal_float {kt : TypeId} {fk : FloatKind} (hu : tyU P kt = some (.float fk)) (a b : Nat) (d : Nat) (w : World) :
    (Op.equalIn (d + 1) kt (.float .f64 a) (.float .f64 b)).run P w = .ok (Op.floatEq .f64 a b) w := by
  simp [Op.equalIn, run_under hu]

theorem find_asking (hG : NanOK E) {kt : TypeId} (hu : tyU P kt = some (.float .f64)) {a : Nat} (w : World) : ∀ {es : List MapEntry} {i : Nat} {r : Option (Nat × Value)}, findR (.float .f64 a) es i = some r →
    (Instr.findAsking kt (sh E (.float .f64 a)) (es.map (shE E)) i).run P w = .ok (r.map fun x => (x.1, sh E x.2)) w := by
  intro es
  induction es with
  | nil => intro i r h; simp only [findR, Option.some.injEq] at h; subst h; simp [Instr.findAsking]
  | cons e es ih =>
    intro i r h
    simp only [findR] at h
    have hs : ∀ b, sameK (.float .f64 a) e.key = some b → (Op.equal kt (sh E (.float .f64 a)) (shE E e).key).run P w = .ok b w := by
      intro b hb
      unfold sameK at hb
      split at hb
      · rename_i e1 _; cases e1
      · rename_i m n e1 e2
        cases e1
        have hr : (Op.equal kt (sh E (.float .f64 a)) (shE E e).key).run P w = .ok (Op.floatEq .f64 (unkF E a) (unkF E n)) w := by
          simp only [shE, e2, sh_float]
          exact equal_float hu _ _ 9999 w
        rw [hr]
        split at hb
        · rename_i hlt
          cases hb
          rw [unkF_lt E hlt.1, unkF_lt E hlt.2]
        · rename_i hlt
          cases hb
          have ho : FloatKind.f64.format.order (unkF E a) (unkF E n) = none := by
            by_cases h1 : a < 18446744073709551616
            · rw [show unkF E n = E.nan (n - 18446744073709551616) by simp [unkF]; omega]; exact (hG _ _).2
            · rw [show unkF E a = E.nan (a - 18446744073709551616) by simp [unkF]; omega]; exact (hG _ _).1
          simp [Op.floatEq, ho]
      · cases hb
    split at h
    · rename_i hb
      cases h
      simp only [List.map_cons, Instr.findAsking, Sem.run_bind, hs _ hb, Result.andThen_ok]
      rfl
    · rename_i hb
      simp only [List.map_cons, Instr.findAsking, Sem.run_bind, hs _ hb, Result.andThen_ok, Bool.false_eq_true, if_false]
      exact ih h
    · cases h

theorem find_run (hG : NanOK E) {kt : TypeId} {k : Value} {es : Array MapEntry} {r : Option (Nat × Value)} (hk : keyT P kt k = true) (h : findR k es.toList 0 = some r) (w : World) :
    (Instr.findKey kt (sh E k) ((es.map (shE E)).toList)).run P w = .ok (r.map fun x => (x.1, sh E x.2)) w := by
  unfold keyT at hk
  split at hk
  · rename_i kd kk n hu
    simp only [Instr.findKey, Sem.run_bind, run_under hu, Result.andThen_ok, Array.toList_map, find_now kd ⟨kk, n, rfl⟩ h, Sem.run_pure]
  · rename_i a hu
    simp only [Instr.findKey, Sem.run_bind, run_under hu, Result.andThen_ok, Array.toList_map]
    cases hes : es.toList with
    | nil =>
      rw [hes] at h
      simp only [findR, Option.some.injEq] at h
      subst h
      simp [Instr.findNow]
    | cons e l =>
      rw [hes] at h
      have hf := find_asking (P := P) (E := E) hG hu w h
      have hn : Instr.findNow (.float .f64) (sh E (.float .f64 a)) ((e :: l).map (shE E)) 0 = none := by
        simp [Instr.findNow, sh_float, Instr.sameNow]
      rw [hn]
      exact hf
  · cases hk

theorem key_run {kt : TypeId} {k : Value} (hk : keyT P kt k = true) (b : Bool) (n : Nat) (v : Value) (w : World) : (Instr.checkKey b (n + 1) kt v).run P w = .ok () w := by
  unfold keyT at hk
  split at hk
  · rename_i hu; simp [Instr.checkKey, run_under hu]
  · rename_i hu; simp [Instr.checkKey, run_under hu]
  · cases hk

theorem getObj_map (hN : E.N = w0.heap.size) {h : List Obj} {d b : Nat} {es : Array MapEntry} {c : Nat} (hb : h[b]? = some (.map es c)) :
    (getObj (E.N + b)).run P (mk E w0 h d) = .ok (.map (es.map (shE E)) c) (mk E w0 h d) := by
  simp [getObj, Sem.run, mk_map hN hb]

theorem setObj_map (hN : E.N = w0.heap.size) {h : List Obj} {d b : Nat} {es : Array MapEntry} {c : Nat} (hb : h[b]? = some (.map es c)) (o : Obj) :
    (setObj (E.N + b) (shO E b o)).run P (mk E w0 h d) = .ok () (mk E w0 (h.set b o) d) := by
  simp only [setObj, Sem.run, mk_map hN hb]
  rw [← mk_set E hN]

theorem find_lt {k : Value} : ∀ {es : List MapEntry} {i j : Nat} {v : Value}, findR k es i = some (some (j, v)) → ∃ m e, j = i + m ∧ es[m]? = some e ∧ sameK k e.key = some true := by
  intro es
  induction es with
  | nil => intro i j v h; simp [findR] at h
  | cons e es ih =>
    intro i j v h
    simp only [findR] at h
    split at h
    · rename_i hb; cases h; exact ⟨0, e, by simp, by simp, hb⟩
    · obtain ⟨m, e', h1, h2, h3⟩ := ih h
      exact ⟨m + 1, e', by omega, by simpa using h2, h3⟩
    · cases h

/-! ### the unknowns -/
def Same (u u' : Nat) (E E' : Env) : Prop := u ≤ u' ∧ ∀ i, i < u ∨ u' ≤ i → E'.nan i = E.nan i ∧ E'.cap i = E.cap i

theorem Same.refl (u : Nat) (E : Env) : Same u u E E := ⟨Nat.le_refl _, fun _ _ => ⟨rfl, rfl⟩⟩

theorem Same.trans {u u' u'' : Nat} {E E' E'' : Env} (h : Same u u' E E') (h' : Same u' u'' E' E'') : Same u u'' E E'' := by
  refine ⟨Nat.le_trans h.1 h'.1, fun i hi => ?_⟩
  have a := h.1
  have b := h'.1
  have h1 := h.2 i (by omega)
  have h2 := h'.2 i (by omega)
  exact ⟨h2.1.trans h1.1, h2.2.trans h1.2⟩

/-- The true block of an iterator gives what the relative one gives. -/
def IterIs (N : Nat) (ob : Obj) (m : Option Nat) (s : Nat) (seen : Array Nat) (st : Nat) : Prop :=
  ∃ arr : Array Nat, ob = .mapIter (m.map (N + ·)) s arr st ∧ arr.back? = seen.toList.getLast? ∧ ∀ x, arr.contains x = seen.toList.contains x

def ItOK (E : Env) (h : List Obj) : Prop := ∀ (i : Nat) m s seen st, h[i]? = some (.mapIter m s seen st) → IterIs E.N (E.ob i) m s seen st

def ObOK (E : Env) : Prop := ∀ (i : Nat) c t fr, E.ob i = .cells c t fr → fr = (0, 0)

structure EnvOK (A : Option Addr × Nat × Nat) (w0 : World) (E : Env) (h : List Obj) : Prop where
  hN : E.N = w0.heap.size
  arg : (E.ap, E.al, E.ac) = A
  nan : NanOK E
  it : ItOK E h
  fz : ObOK E

def notIter : Obj → Bool
  | .mapIter _ _ _ _ => false
  | _ => true

theorem ItOK.set {h : List Obj} (hi : ItOK E h) {b : Nat} {o : Obj} (ho : notIter o = true) : ItOK E (h.set b o) := by
  intro i m s seen st hg
  rw [List.getElem?_set] at hg
  split at hg
  · split at hg
    · cases hg; simp [notIter] at ho
    · cases hg
  · exact hi i m s seen st hg

theorem ItOK.new {h : List Obj} (hi : ItOK E h) {o : Obj} (ho : notIter o = true) : ItOK E (newR h o) := by
  intro i m s seen st hg
  unfold newR at hg
  rw [List.getElem?_append] at hg
  split at hg
  · exact hi i m s seen st hg
  · rename_i hl
    have : i - h.length = 0 := by
      have := (List.getElem?_eq_some_iff.1 hg).1
      simp at this; omega
    rw [this] at hg
    simp at hg
    subst hg; simp [notIter] at ho

theorem EnvOK.set {A : Option Addr × Nat × Nat} {h : List Obj} (he : EnvOK A w0 E h) {b : Nat} {o : Obj} (ho : notIter o = true) : EnvOK A w0 E (h.set b o) :=
  ⟨he.hN, he.arg, he.nan, he.it.set ho, he.fz⟩

theorem EnvOK.new {A : Option Addr × Nat × Nat} {h : List Obj} (he : EnvOK A w0 E h) {o : Obj} (ho : notIter o = true) : EnvOK A w0 E (newR h o) :=
  ⟨he.hN, he.arg, he.nan, he.it.new ho, he.fz⟩

theorem okV_sh {u : Nat} {E E' : Env} (hN : E'.N = E.N) (ha : (E'.ap, E'.al, E'.ac) = (E.ap, E.al, E.ac)) (hs : ∀ i, i < u → E'.nan i = E.nan i ∧ E'.cap i = E.cap i) :
    ∀ (n : Nat) (v : Value), okV u n v = true → sh E' v = sh E v := by
  have hA : ∀ a, shA E' a = shA E a := fun a => by simp [shA, hN]
  have hC : ∀ c, c < 18446744073709551616 + u → unkC E' c = unkC E c := by
    intro c hc
    unfold unkC
    split
    · rfl
    · exact (hs _ (by omega)).2
  have hF : ∀ c, c < 18446744073709551616 + u → unkF E' c = unkF E c := by
    intro c hc
    unfold unkF
    split
    · rfl
    · exact (hs _ (by omega)).1
  simp only [Prod.mk.injEq] at ha
  intro n
  induction n with
  | zero => intro v h; simp [okV] at h
  | succ n ih =>
    intro v h
    have hl : ∀ (x : Array Value), x.toList.all (okV u n) = true → x.map (sh E') = x.map (sh E) := by
      intro x hx
      rw [← Array.toList_inj]
      simp only [Array.toList_map]
      apply List.map_congr_left
      intro y hy
      exact ih y (List.all_eq_true.1 hx y hy)
    simp only [okV] at h
    cases v with
    | pointer a => cases a <;> simp [sh_ptr, sh_ptr0, hA]
    | slice a l c =>
      simp only [decide_eq_true_eq] at h
      cases a <;> simp [sh_slice, sh_slice0, hA, hC c h]
    | map a => cases a <;> simp [sh_map, sh_map0, hN]
    | chan a => cases a <;> simp [sh_chan, sh_chan0, hN, ha]
    | float k b => simp only [decide_eq_true_eq] at h; simp [sh_float, hF b h]
    | func f x y => simp only [Bool.and_eq_true] at h; simp [sh_func, hl x h.1, hl y h.2]
    | iface t x => simp [sh_iface, ih x h]
    | agg x => simp [sh_agg, hl x h]
    | tuple x => simp [sh_tuple, hl x h]
    | _ => simp [sh_bool, sh_int, sh_string, sh_nilFunc, sh_nilIface, sh_complex]

theorem okO_sh {u : Nat} {E E' : Env} (hN : E'.N = E.N) (ha : (E'.ap, E'.al, E'.ac) = (E.ap, E.al, E.ac)) (hs : ∀ i, i < u → E'.nan i = E.nan i ∧ E'.cap i = E.cap i)
    (hob : E'.ob = E.ob) (i : Nat) (o : Obj) (h : okO u o = true) : shO E' i o = shO E i o := by
  have hl : ∀ (x : Array Value), x.toList.all (okV u 9) = true → x.map (sh E') = x.map (sh E) := by
    intro x hx
    rw [← Array.toList_inj]
    simp only [Array.toList_map]
    apply List.map_congr_left
    intro y hy
    exact okV_sh hN ha hs 9 y (List.all_eq_true.1 hx y hy)
  cases o with
  | cells c t fr => simp only [okO] at h; simp [shO, hl c h]
  | map es c =>
    simp only [okO] at h
    simp only [shO]
    congr 1
    rw [← Array.toList_inj]
    simp only [Array.toList_map]
    apply List.map_congr_left
    intro e he
    have := List.all_eq_true.1 h e he
    simp only [Bool.and_eq_true] at this
    simp [shE, okV_sh hN ha hs 9 _ this.1, okV_sh hN ha hs 9 _ this.2]
  | chan j c x t y z =>
    simp only [okO, Bool.and_eq_true, decide_eq_true_eq] at h
    simp [shO, hl c h.2, (hs j h.1).2]
  | mapIter m s se st => simp [shO, hob]
  | coro x => simp [shO, hob]
  | _ => simp [shO]

theorem okSt_mk {s : St} {E E' : Env} (hok : okSt s = true) (hN : E'.N = E.N) (ha : (E'.ap, E'.al, E'.ac) = (E.ap, E.al, E.ac)) (hs : ∀ i, i < s.u → E'.nan i = E.nan i ∧ E'.cap i = E.cap i)
    (hob : E'.ob = E.ob) (d : Nat) : mk E' w0 s.hp d = mk E w0 s.hp d ∧ s.tm.map (sh E') = s.tm.map (sh E) := by
  simp only [okSt, Bool.and_eq_true] at hok
  refine ⟨?_, List.map_congr_left fun v hv => okV_sh hN ha hs 9 v (List.all_eq_true.1 hok.1 v hv)⟩
  unfold mk
  congr 3
  apply List.ext_getElem?
  intro i
  simp only [List.getElem?_mapIdx]
  cases hi : s.hp[i]? with
  | none => rfl
  | some o => simp [okO_sh hN ha hs hob i o (List.all_eq_true.1 hok.2 o (List.mem_of_getElem? hi))]

/-- What a step of memory comes to. -/
def Done (P : Program) (A : Option Addr × Nat × Nat) (w0 : World) (E : Env) (ev : Operand → Value) (o : Oper) (s : St) (d : Nat) (outs : Outs) : Prop :=
  ∃ v h' u' d' nx E', (v, h', u') ∈ outs ∧ (execOp ev o).run P (mk E w0 s.hp d) = .ok nx (mk E' w0 h' d') ∧ (nx = .value (sh E' v) ∨ (nx = .skip ∧ v = undef)) ∧
    EnvOK A w0 E' h' ∧ Same s.u u' E E' ∧ s.tm.map (sh E') = s.tm.map (sh E)

theorem done_one {A : Option Addr × Nat × Nat} {ev : Operand → Value} {o : Oper} {s : St} {h' : List Obj} {d : Nat} {v : Value} {outs : Outs} (he : one v h' s.u = some outs) (hok : EnvOK A w0 E h')
    (hr : (execOp ev o).run P (mk E w0 s.hp d) = .ok (.value (sh E v)) (mk E w0 h' d)) : Done P A w0 E ev o s d outs := by
  cases he
  exact ⟨v, h', s.u, d, _, E, by simp, hr, .inl rfl, hok, Same.refl _ _, rfl⟩

theorem done_skip {A : Option Addr × Nat × Nat} {ev : Operand → Value} {o : Oper} {s : St} {h' : List Obj} {d : Nat} {outs : Outs} (he : one undef h' s.u = some outs) (hok : EnvOK A w0 E h')
    (hr : (execOp ev o).run P (mk E w0 s.hp d) = .ok .skip (mk E w0 h' d)) : Done P A w0 E ev o s d outs := by
  cases he
  exact ⟨undef, h', s.u, d, _, E, by simp, hr, .inr ⟨rfl, rfl⟩, hok, Same.refl _ _, rfl⟩

theorem new_run (hN : E.N = w0.heap.size) (h : List Obj) (d : Nat) (l : List Value) (t : TypeId) :
    (newRow t ((l.map (sh E)).toArray)).run P (mk E w0 h d) = .ok (shA E ⟨h.length, 0, none⟩) (mk E w0 (newR h (.cells ⟨l⟩ t (0, 0))) d) := by
  simp only [newRow, Sem.run_bind, run_newObj, Result.andThen_ok, Sem.run_pure, mk_size E hN]
  congr 1
  unfold newR
  rw [← mk_push]
  simp [shO]
end
end Go.Rel
