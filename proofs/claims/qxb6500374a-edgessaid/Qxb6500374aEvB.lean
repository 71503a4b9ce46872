import Derived.Test.Qxb6500374aEvA
import Derived.Laws.StructEq
set_option linter.unusedSimpArgs false
set_option linter.unusedVariables false
namespace Go.Rel
section
variable {P : Program} {E : Env}

theorem prun_run {α : Type} {s : Sem α} {a : α} (h : prun P s = some a) (w : World) : s.run P w = .ok a w := by
  induction s with
  | pure b => simp only [prun, Option.some.injEq] at h; subst h; rfl
  | program k ih => simp only [prun] at h; simp only [Sem.run]; exact ih P h
  | _ => simp [prun] at h

theorem arr_map (xs : Array Value) : xs.map (sh E) = (xs.toList.map (sh E)).toArray := by
  rw [← Array.toList_inj, Array.toList_map]

theorem scalO_some {o : Option Value} {v : Value} (h : scalO o = some v) : o = some v ∧ scal v = true := by
  unfold scalO at h
  split at h
  · split at h
    · rename_i hs; cases h; exact ⟨rfl, hs⟩
    · cases h
  · cases h

theorem numV_scal {v : Value} (h : numV v = true) : scal v = true := by
  cases v <;> simp_all [numV, scal]

theorem run_part' {t : TypeId} {cs : List Value} {off : Nat} {v : Value} (h : partR P t cs off = some v) (w : World) :
    (part t ((cs.map (sh E)).toArray) off).run P w = .ok (sh E v) w := by
  unfold partR at h
  split at h
  · rename_i d n hd hn
    simp only [part, Sem.run_bind, run_agg hd, Result.andThen_ok]
    split at h
    · rename_i ha
      cases h
      simp only [ha, if_true, Sem.run_bind, run_size hn, Result.andThen_ok, Sem.run_pure]
      congr 1
      rw [sh_agg]
      congr 1
      rw [← Array.toList_inj]
      simp [List.map_drop, List.map_take]
    · rename_i ha
      simp only [ha]
      simp [h]
  · cases h

theorem splice_length {l vs : List Value} {off : Nat} (h : off + vs.length ≤ l.length) : (splice l off vs).length = l.length := by
  simp [splice]; omega

theorem splice_map (l vs : List Value) (off : Nat) : (splice l off vs).map (sh E) = splice (l.map (sh E)) off (vs.map (sh E)) := by
  simp [splice, List.map_take, List.map_drop]

theorem splice_get {l vs : List Value} {off : Nat} (h : off + vs.length ≤ l.length) (i : Nat) :
    (splice l off vs)[i]? = if i < off then l[i]? else if i < off + vs.length then vs[i - off]? else l[i]? := by
  unfold splice
  have hm : min off l.length = off := by omega
  split
  · rename_i hi
    rw [List.append_assoc, List.getElem?_append_left (by simp; omega)]
    simp [List.getElem?_take, hi]
  · rename_i hi
    split
    · rename_i hj
      rw [List.append_assoc, List.getElem?_append_right (by simp; omega), List.getElem?_append_left (by simp; omega)]
      simp [hm]
    · rename_i hj
      rw [List.getElem?_append_right (by simp; omega)]
      simp only [List.length_append, List.length_take, hm, List.getElem?_drop]
      congr 1
      omega

theorem foldl_splice (vs : List Value) : ∀ (l : List Value) (off k : Nat), off + k + vs.length ≤ l.length →
    ((vs.zipIdx k).foldl (fun (cs : Array Value) (x : Value × Nat) => cs.setIfInBounds (off + x.2) x.1) l.toArray) = (splice l (off + k) vs).toArray := by
  induction vs with
  | nil => intro l off k h; simp [splice]
  | cons v vs ih =>
    intro l off k h
    simp only [List.length_cons] at h
    simp only [List.zipIdx_cons, List.foldl_cons, List.setIfInBounds_toArray]
    rw [ih (l.set (off + k) v) off (k + 1) (by simp; omega)]
    congr 1
    apply List.ext_getElem?
    intro i
    rw [splice_get (by simp; omega), splice_get (by simp; omega)]
    simp only [List.length_cons, List.getElem?_set]
    by_cases h1 : i < off + k
    · simp [h1, show i < off + (k + 1) by omega, show ¬ off + k = i by omega]
    · by_cases h2 : i = off + k
      · subst h2
        simp [show off + k < off + (k + 1) by omega, show off + k < l.length by omega]
      · have h3 : ¬ i < off + (k + 1) := by omega
        simp only [h1, h3, if_false, show ¬ off + k = i by omega]
        by_cases h4 : i < off + (k + 1) + vs.length
        · have h5 : i < off + k + (vs.length + 1) := by omega
          simp only [h4, h5, if_true]
          rw [show i - (off + k) = (i - (off + (k + 1))) + 1 by omega, List.getElem?_cons_succ]
        · have h5 : ¬ i < off + k + (vs.length + 1) := by omega
          simp only [h4, h5, if_false]

theorem fill_of (place : Nat → Option (Nat × Nat)) : ∀ (parts : List (Nat × Value)) (cells cs : List Value), fillR place cells parts = some cs →
    Instr.fill place ((cells.map (sh E)).toArray) (parts.map fun p => (p.1, sh E p.2)) = some ((cs.map (sh E)).toArray) := by
  intro parts
  induction parts with
  | nil => intro cells cs h; simp only [fillR, Option.some.injEq] at h; subst h; simp [Instr.fill]
  | cons p parts ih =>
    obtain ⟨i, v⟩ := p
    intro cells cs h
    simp only [fillR] at h
    simp only [List.map_cons, Instr.fill]
    cases hp : place i with
    | none => simp [hp] at h
    | some q =>
      obtain ⟨off, size⟩ := q
      simp only [hp] at h ⊢
      split at h
      · rename_i hc
        obtain ⟨h1, h2⟩ := hc
        simp only [cells_eq, cellsL_sh]
        rw [if_neg (by simp [h1]; rw [← h1]; exact h2)]
        have hf := foldl_splice ((cellsL v).map (sh E)) (cells.map (sh E)) off 0 (by simpa using h2)
        simp only [Nat.add_zero] at hf
        have hz : ∀ (l : List Value) (A : Array Value), Array.foldl (fun (cs : Array Value) (x : Value × Nat) => cs.setIfInBounds (off + x.2) x.1) A (l.toArray.zipIdx) = (l.zipIdx 0).foldl (fun cs x => cs.setIfInBounds (off + x.2) x.1) A := by
          intro l A; simp
        rw [hz, hf, ← splice_map]
        exact ih _ _ h
      · cases h

theorem places_run {w : World} : ∀ (fs : List Field) (l : List (Nat × Nat)), placesR P fs = some l →
    (fs.mapM (fun (f : Field) => (do pure (f.offset, ← sizeOf f.type) : Sem (Nat × Nat)))).run P w = .ok l w := by
  intro fs
  induction fs with
  | nil => intro l h; simp only [placesR, Option.some.injEq] at h; subst h; simp
  | cons f fs ih =>
    intro l h
    simp only [placesR] at h
    split at h
    · rename_i n l' hn hl
      cases h
      rw [List.mapM_cons]
      simp only [Sem.run_bind, run_size hn, ih _ hl, Result.andThen_ok, Sem.run_pure]
    · cases h

theorem build_run {t : TypeId} {parts : List (Nat × Value)} {v : Value} (h : buildR P t parts = some v) (w : World) :
    (Instr.build t ((parts.map fun p => (p.1, sh E p.2)).toArray)).run P w = .ok (sh E v) w := by
  unfold buildR at h
  split at h
  · rename_i z fields hz hu
    split at h
    · rename_i places hp
      split at h
      · rename_i cs hcs
        cases h
        have hzz := map_scal E (zero_scal hz)
        have hf := fill_of (E := E) _ _ _ _ hcs
        rw [hzz] at hf
        simp only [Instr.build, Sem.run_bind, run_zero hz, run_under hu, Result.andThen_ok]
        rw [show fields = fields.toList.toArray from rfl, List.mapM_toArray]
        simp only [Sem.run_map, places_run _ _ hp, Result.andThen_ok, cells_eq, List.getElem?_toArray]
        rw [show ({ toList := cellsL z } : Array Value) = (cellsL z).toArray from rfl, hf]
        simp [sh_agg]
      · cases h
    · cases h
  · rename_i z n elem hz hu
    split at h
    · rename_i size hs
      split at h
      · rename_i cs hcs
        cases h
        have hzz := map_scal E (zero_scal hz)
        have hf := fill_of (E := E) _ _ _ _ hcs
        rw [hzz] at hf
        simp only [Instr.build, Sem.run_bind, run_zero hz, run_under hu, run_size hs, Result.andThen_ok, cells_eq]
        rw [show ({ toList := cellsL z } : Array Value) = (cellsL z).toArray from rfl, hf]
        simp [sh_agg]
      · cases h
    · cases h
  · cases h

/-! ### equality -/
theorem eqScal_run {d : Nat} {t : TypeId} {dsc : TypeDesc} {x y : Value} {r : Bool} (hd : tyU P t = some dsc) (h : eqScal dsc x y = some r) (w : World) :
    (Op.equalIn (d + 1) t (sh E x) (sh E y)).run P w = .ok r w := by
  unfold eqScal at h
  split at h <;> first
    | (cases h; done)
    | (cases h; simp [Op.equalIn, run_under hd, sh_bool, sh_ptr, sh_ptr0, sh_nilIface, sh_iface, sh_slice, sh_slice0, sh_map, sh_map0, sh_nilFunc, sh_func]; done)
    | (cases h; rw [sh_string, sh_string, run_equalIn_string w d t _ _ (under_of hd), ByteArray.toList_eq, ByteArray.toList_eq]; done)
    | (split at h
       · rename_i hk; cases h; subst hk; rw [sh_int, sh_int, run_equalIn_int w d t _ _ _ _ (under_of hd)]
       · cases h)

theorem eqFields_run {d : Nat} {xs ys : List Value} {w : World} : ∀ {fs : List Field} {r : Bool}, eqFields P xs ys fs = some r →
    (Op.eqFields (d + 1) ((xs.map (sh E)).toArray) ((ys.map (sh E)).toArray) fs).run P w = .ok r w := by
  intro fs
  induction fs with
  | nil => intro r h; simp only [eqFields, Option.some.injEq] at h; subst h; simp [Op.eqFields]
  | cons f fs ih =>
    intro r h
    simp only [eqFields] at h
    split at h
    · rename_i hn
      simp only [Op.eqFields, hn, ne_eq, not_true_eq_false, if_false]
      exact ih h
    · rename_i hn
      split at h
      · rename_i dsc x y hd hx hy
        simp only [Op.eqFields, ne_eq, hn, not_false_eq_true, if_true, Sem.run_bind, run_part' hx, run_part' hy, Result.andThen_ok]
        split at h
        · rename_i he
          simp only [eqScal_run hd he, Result.andThen_ok, Bool.not_true, Bool.false_eq_true, if_false]
          exact ih h
        · rename_i he
          cases h
          simp only [eqScal_run hd he, Result.andThen_ok, Bool.not_false, if_true, Sem.run_pure]
        · cases h
      · cases h

theorem eqR_run {d : Nat} {t : TypeId} {x y : Value} {r : Bool} (h : eqR P t x y = some r) (w : World) :
    (Op.equalIn (d + 2) t (sh E x) (sh E y)).run P w = .ok r w := by
  unfold eqR at h
  split at h
  · rename_i fields hu
    split at h
    · rename_i xs ys
      split at h
      · rename_i hs
        have hf : P.fieldsOf t = fields := by simp [Program.fieldsOf, under_of hu]
        rw [sh_agg, sh_agg, run_equalIn_struct w (d + 1) t _ _ (by rw [hf]; exact under_of hu) hs, hf]
        have := eqFields_run (E := E) (d := d) (w := w) h
        rw [arr_map, arr_map]
        exact this
      · cases h
    · cases h
  · rename_i dsc hns hu
    exact eqScal_run hu h w
  · cases h

theorem sh_eq_nilIface {a : Value} (h : sh E a = .nilIface) : a = .nilIface := by
  cases a with
  | pointer a => cases a <;> simp [sh_ptr, sh_ptr0] at h
  | slice a l c => cases a <;> simp [sh_slice, sh_slice0] at h
  | map a => cases a <;> simp [sh_map, sh_map0] at h
  | chan a => cases a <;> simp [sh_chan, sh_chan0] at h
  | nilIface => rfl
  | _ => simp [sh_agg, sh_tuple, sh_func, sh_iface, sh_bool, sh_int, sh_string, sh_nilFunc, sh_float, sh_complex] at h

theorem sh_eq_agg {a : Value} {xs : Array Value} (h : sh E a = .agg xs) : ∃ ys, a = .agg ys := by
  cases a with
  | pointer a => cases a <;> simp [sh_ptr, sh_ptr0] at h
  | slice a l c => cases a <;> simp [sh_slice, sh_slice0] at h
  | map a => cases a <;> simp [sh_map, sh_map0] at h
  | chan a => cases a <;> simp [sh_chan, sh_chan0] at h
  | agg ys => exact ⟨ys, rfl⟩
  | _ => simp [sh_nilIface, sh_tuple, sh_func, sh_iface, sh_bool, sh_int, sh_string, sh_nilFunc, sh_float, sh_complex] at h

theorem guard_other {op : BinOp} {t : TypeId} {x y : Operand} {a b : Value} (h1 : ¬ (a = .nilIface ∧ b = .nilIface)) (h2 : ∀ xs ys, ¬ (a = .agg xs ∧ b = .agg ys)) (w : World) :
    (eqGuard op t x y a b).run P w = .ok () w := by
  cases op <;> first
    | rfl
    | (cases a <;> first
        | rfl
        | (cases b <;> first | rfl | (exact absurd ⟨rfl, rfl⟩ h1) | (exact absurd ⟨rfl, rfl⟩ (h2 _ _))))

theorem guard_run {op : BinOp} {t : TypeId} {x y : Operand} {a b : Value} (h : guardR P t x y a b = true) (w : World) :
    (eqGuard op t x y (sh E a) (sh E b)).run P w = .ok () w := by
  unfold guardR at h
  split at h
  · rw [sh_nilIface]
    cases x <;> cases y <;> simp at h <;> cases op <;> simp [eqGuard]
  · simp only [sh_agg]
    exact run_eqGuard_agg w op t x y _ _ (by simpa using h)
  · rename_i h1 h2
    refine guard_other ?_ ?_ w
    · rintro ⟨ha, hb⟩
      exact h1 (sh_eq_nilIface ha) (sh_eq_nilIface hb)
    · rintro xs ys ⟨ha, hb⟩
      obtain ⟨xs', rfl⟩ := sh_eq_agg ha
      obtain ⟨ys', rfl⟩ := sh_eq_agg hb
      exact h2 _ _ rfl rfl

/-! ### binOp -/
theorem strOp_run {op : BinOp} {a b : ByteArray} {v : Value} (h : strOp op a b = some v) (w : World) :
    (Op.stringOp op a b).run P w = .ok (sh E v) w := by
  unfold strOp at h
  split at h
  · split at h
    · rename_i hlt
      cases h
      simp only [Op.stringOp]
      rw [if_neg]
      · simp only [Sem.run_pure, sh_string]
        congr 2
      · have e1 : a.size = a.data.toList.length := rfl
        have e2 : b.size = b.data.toList.length := rfl
        rw [e1, e2]
        simp only [IntKind.max, IntKind.signed, IntKind.bits]
        omega
    · cases h
  · cases h; simp [Op.stringOp, sh_bool, ByteArray.toList_eq]
  · cases h; simp [Op.stringOp, sh_bool, ByteArray.toList_eq]
  · cases h

theorem numV_not {a : Value} (h : numV a = true) : a ≠ .nilIface ∧ ∀ xs, a ≠ .agg xs := by
  cases a <;> simp_all [numV]

theorem eqR_bin {t : TypeId} {a b : Value} {r : Bool} (h : eqR P t a b = some r) (w : World) (hn : (numV a && numV b) = false)
    (hs : ∀ s u, a = .string s → b = .string u → False) :
    (binOp .eql t (sh E a) (sh E b)).run P w = .ok (.bool r) w ∧ (binOp .neq t (sh E a) (sh E b)).run P w = .ok (.bool (!r)) w := by
  have he : (Op.equal t (sh E a) (sh E b)).run P w = .ok r w := eqR_run (d := 9998) h w
  unfold eqR at h
  split at h
  · split at h
    · rename_i xs ys
      simp only [sh_agg] at he ⊢
      simp only [binOp, Sem.run_bind, he, Result.andThen_ok, Sem.run_pure, and_self]
    · cases h
  · unfold eqScal at h
    split at h <;> first
      | (cases h; done)
      | (exfalso; exact hs _ _ rfl rfl)
      | (simp [numV] at hn; done)
      | (simp only [sh_bool, sh_ptr, sh_ptr0, sh_nilIface, sh_iface, sh_slice, sh_slice0, sh_map, sh_map0, sh_nilFunc, sh_func] at he ⊢
         simp only [binOp, Sem.run_bind, he, Result.andThen_ok, Sem.run_pure, and_self])
  · cases h

/-- What stands for a float that is no number compares with nothing. -/
def NanOK (E : Env) : Prop := ∀ i x, FloatKind.f64.format.order (E.nan i) x = none ∧ FloatKind.f64.format.order x (E.nan i) = none

theorem nan_run (hG : NanOK E) {op : BinOp} {t : TypeId} {x y : Operand} {a b v : Value} (hp : nanPair a b = true) (h : nanCmp op = some v) (w : World) :
    (do eqGuard op t x y (sh E a) (sh E b); binOp op t (sh E a) (sh E b) : Sem Value).run P w = .ok (sh E v) w := by
  unfold nanPair at hp
  split at hp
  · rename_i m n
    have ho : FloatKind.f64.format.order (unkF E m) (unkF E n) = none := by
      simp only [Bool.or_eq_true, decide_eq_true_eq] at hp
      rcases hp with hp | hp
      · rw [show unkF E m = E.nan (m - 18446744073709551616) by simp [unkF]; omega]; exact (hG _ _).1
      · rw [show unkF E n = E.nan (n - 18446744073709551616) by simp [unkF]; omega]; exact (hG _ _).2
    simp only [Sem.run_bind, sh_float]
    rw [guard_other (by simp) (by simp)]
    cases op <;> simp only [nanCmp, Option.some.injEq] at h <;> first
      | (cases h; done)
      | (subst h; simp [binOp, Op.floatCmp, ho, sh_bool])
  · cases hp

theorem bin_run (hG : NanOK E) {op : BinOp} {t : TypeId} {x y : Operand} {a b v : Value} (h : binR P op t x y a b = some v) (w : World) :
    (do eqGuard op t x y (sh E a) (sh E b); binOp op t (sh E a) (sh E b) : Sem Value).run P w = .ok (sh E v) w := by
  unfold binR at h
  split at h
  · rename_i s u
    simp only [Sem.run_bind, sh_string]
    rw [guard_other (by simp) (by simp)]
    simp only [Result.andThen_ok]
    have := strOp_run (P := P) (E := E) h w
    cases op <;> simpa [binOp] using this
  · rename_i hs
    split at h
    · rename_i hn
      simp only [Bool.and_eq_true] at hn
      obtain ⟨hp, hv⟩ := scalO_some h
      rw [sh_scal E (numV_scal hn.1), sh_scal E (numV_scal hn.2), sh_scal E hv]
      simp only [Sem.run_bind]
      rw [guard_other (fun h => (numV_not hn.1).1 h.1) (fun xs _ h => (numV_not hn.1).2 xs h.1)]
      exact prun_run hp w
    · rename_i hn
      have hn' : (numV a && numV b) = false := by simpa using hn
      split at h
      · rename_i hp
        exact nan_run hG hp h w
      split at h
      · split at h
        · rename_i hg
          split at h
          · rename_i r hr
            cases h
            simp only [Sem.run_bind, guard_run hg, Result.andThen_ok, sh_bool]
            exact (eqR_bin hr w hn' (fun s u e1 e2 => hs s u e1 e2)).1
          · cases h
        · cases h
      · split at h
        · rename_i hg
          split at h
          · rename_i r hr
            cases h
            simp only [Sem.run_bind, guard_run hg, Result.andThen_ok, sh_bool]
            exact (eqR_bin hr w hn' (fun s u e1 e2 => hs s u e1 e2)).2
          · cases h
        · cases h
      · cases h

/-! ### addresses, assertions -/
theorem add_sh (a : Addr) (n : Nat) (hs : a.spot = none) : (shA E a).add n = shA E (addrAdd a n) := by
  obtain ⟨b, o, s⟩ := a
  subst hs
  unfold Addr.add addrAdd shA
  split
  · rename_i h; subst h; rfl
  · rfl

theorem getF_some {s : TypeId} {i : Nat} {f : Field} (h : getF P s i = some f) : ∃ fs, tyU P s = some (.struct fs) ∧ fs[i]? = some f := by
  unfold getF at h
  split at h
  · rename_i fs hu; exact ⟨fs, hu, by simpa using h⟩
  · cases h

theorem fieldPlace_run {s : TypeId} {a b : Addr} {i : Nat} (h : fieldAddrR P s a i = some b) : ∃ f, getF P s i = some f ∧
    ∀ w, (fieldPlace (shA E a) f).run P w = .ok (shA E b) w := by
  unfold fieldAddrR at h
  split at h
  · rename_i f hspot hf
    split at h
    · rename_i n hn
      cases h
      refine ⟨f, hf, fun w => ?_⟩
      simp only [fieldPlace, Sem.run_bind, run_size hn, Result.andThen_ok]
      rw [if_neg (by omega)]
      simp only [Sem.run_pure, add_sh a _ hspot]
    · cases h
  · cases h

theorem least_none {l : List String} : Instr.least l = none ↔ l = [] := by
  cases l <;> simp [Instr.least]

theorem missing_iff (want : Array (String × TypeId)) (got : Array Method) : Instr.missingMethod want got = none ↔ lacks want.toList got.toList = false := by
  have e : lacks want.toList got.toList = false ↔ (want.toList.filter fun (x : String × TypeId) => !got.any fun m => m.name == x.1 && m.sig == x.2) = [] := by
    rw [List.filter_eq_nil_iff]
    unfold lacks
    rw [List.any_eq_false]
    constructor
    · intro h x hx
      have := h x hx
      simpa using this
    · intro h x hx
      have := h x hx
      simpa using this
  rw [e]
  unfold Instr.missingMethod
  generalize hL : (want.toList.filter fun (x : String × TypeId) => !got.any fun m => m.name == x.1 && m.sig == x.2) = L
  simp only [hL, List.partition_eq_filter_filter]
  have key : ∀ (p : String → Bool) (g : String → String) (l : List String), (Instr.least (l.filter (fun x => !p x)) <|> Instr.least ((l.filter p).map g)) = none ↔ l = [] := by
    intro p g l
    constructor
    · intro h
      cases h1 : Instr.least (l.filter (fun x => !p x)) with
      | some s => rw [h1] at h; cases h
      | none =>
        rw [h1] at h
        have h2 : Instr.least ((l.filter p).map g) = none := h
        rw [least_none] at h1 h2
        simp only [List.map_eq_nil_iff, List.filter_eq_nil_iff] at h1 h2
        cases l with
        | nil => rfl
        | cons x l =>
          have a1 := h1 x (by simp)
          have a2 := h2 x (by simp)
          simp at a1 a2
          rw [a1] at a2; cases a2
    · intro h; subst h; rfl
  have := key (fun s => s.contains '.') (fun id => (id.splitOn ".").getLastD id) (L.map (·.1))
  rw [List.map_eq_nil_iff] at this
  exact this

theorem assert_run {x : Value} {u xt : TypeId} {v : Value} (h : assertR P x u = some v) (w : World) :
    (Instr.typeAssert (sh E x) xt u true).run P w = .ok (sh E v) w := by
  unfold assertR at h
  split at h
  · rename_i ms z hu hz
    cases h
    simp only [Instr.typeAssert, sh_nilIface, Sem.run_bind, run_under hu, Result.andThen_ok, if_true, run_zero hz, Sem.run_pure, sh_tuple]
    simp [sh_cells_scal E (zero_scal hz), sh_bool]
  · rename_i want t y z hu hz
    split at h
    · rename_i i hi
      simp only [Instr.typeAssert, sh_iface, Sem.run_bind, run_under hu, Result.andThen_ok, run_info hi]
      split at h
      · rename_i hl
        cases h
        cases hm : Instr.missingMethod want i.methods with
        | none => rw [missing_iff, hl] at hm; cases hm
        | some m =>
          simp [run_zero hz, sh_tuple, sh_cells_scal E (zero_scal hz), sh_bool]
      · rename_i hl
        cases h
        have hm : Instr.missingMethod want i.methods = none := by rw [missing_iff]; simpa using hl
        simp [hm, sh_tuple, sh_iface, sh_bool]
    · cases h
  · rename_i d z hni hu hz
    cases h
    simp only [Instr.typeAssert, sh_nilIface, Sem.run_bind, run_under hu, Result.andThen_ok]
    cases d <;> first
      | (exact absurd rfl (hni _))
      | (simp only [if_true, Sem.run_bind, run_zero hz, Result.andThen_ok, Sem.run_pure, sh_tuple]
         simp [sh_cells_scal E (zero_scal hz), sh_bool])
  · rename_i d t y z hni hu hz
    simp only [Instr.typeAssert, sh_iface, Sem.run_bind, run_under hu, Result.andThen_ok]
    split at h
    · rename_i ht
      cases h
      cases d <;> first
        | (exact absurd rfl (hni _))
        | (simp [ht, sh_tuple, sh_bool])
    · rename_i ht
      cases h
      cases d <;> first
        | (exact absurd rfl (hni _))
        | (simp only [ht, if_false, if_true, Sem.run_bind, run_zero hz, Result.andThen_ok, Sem.run_pure, sh_tuple]
           simp [sh_cells_scal E (zero_scal hz), sh_bool])
  · cases h
end
end Go.Rel
