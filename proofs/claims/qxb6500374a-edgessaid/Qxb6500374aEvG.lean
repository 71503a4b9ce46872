import Derived.Test.Qxb6500374aEvF
set_option linter.unusedSimpArgs false
set_option linter.unusedVariables false
namespace Go.Rel
section
variable {P : Program} {E : Env} {w0 : World}

/-- The true frame and world of a relative state; (u0, E0): how the unknowns stood as the function was entered. -/
def Rep (A : Option Addr × Nat × Nat) (w0 : World) (u0 : Nat) (E0 : Env) (s : St) (a : Act) (w : World) : Prop :=
  ∃ E d, a.tmps = (s.tm.map (sh E)).toArray ∧ a.defers = [] ∧ w = mk E w0 s.hp d ∧ EnvOK A w0 E s.hp ∧ Same u0 s.u E0 E

def CallOK (P : Program) (A : Option Addr × Nat × Nat) (w0 : World) (call : CallF) : Prop :=
  ∀ E f args h u outs d, EnvOK A w0 E h → call f args h u = some outs →
    (∃ fn, P.funcs[f]? = some fn ∧ fn.body.isSome = true) ∧
    Calls P f ((args.map (sh E)).toArray) (mk E w0 h d) fun e w' => ∃ v h' u' d' E', (v, h', u') ∈ outs ∧ e = .returned (sh E' v) ∧ w' = mk E' w0 h' d' ∧ EnvOK A w0 E' h' ∧ Same u u' E E'

theorem eval_rho {tm : List Value} {a : Act} (ht : a.tmps = (tm.map (sh E)).toArray) {x : Operand} (hx : xOk x = true) : a.eval x = sh E (rho tm x) := by
  cases x with
  | tmp t =>
    simp only [Act.eval, rho, ht]
    rw [← getD_sh]
    simp
  | const v => simp only [Act.eval, rho]; exact (sh_scal E hx).symm
  | global g => simp [xOk] at hx
  | func f => simp [Act.eval, rho, sh_func]

theorem put_tm {tm : List Value} {a : Act} {E E' : Env} (h : a.tmps = (tm.map (sh E)).toArray) (he : tm.map (sh E') = tm.map (sh E)) (dst : Option Tmp) (v : Value) (h' : List Obj) (u' : Nat) :
    (a.put dst (sh E' v)).tmps = ((St.put ⟨tm, h', u'⟩ dst v).tm.map (sh E')).toArray := by
  cases dst with
  | none => simp only [Act.put, St.put, h, he]
  | some t => simp only [Act.put, St.put, h, List.setIfInBounds_toArray, List.map_set, he]

theorem put_hp (tm : List Value) (h : List Obj) (u : Nat) (dst : Option Tmp) (v : Value) : (St.put ⟨tm, h, u⟩ dst v).hp = h ∧ (St.put ⟨tm, h, u⟩ dst v).u = u := by
  cases dst <;> exact ⟨rfl, rfl⟩

theorem put_def (a : Act) (dst : Option Tmp) (v : Value) : (a.put dst v).defers = a.defers := by cases dst <;> rfl

theorem put_rep {A : Option Addr × Nat × Nat} {u0 : Nat} {E0 E E' : Env} {s : St} {a : Act} {d : Nat} (ht : a.tmps = (s.tm.map (sh E)).toArray) (hd : a.defers = []) (he : s.tm.map (sh E') = s.tm.map (sh E)) (dst : Option Tmp) (v : Value) {h' : List Obj} {u' : Nat}
    (hE : EnvOK A w0 E' h') (hs : Same u0 u' E0 E') : Rep A w0 u0 E0 (St.put ⟨s.tm, h', u'⟩ dst v) (a.put dst (sh E' v)) (mk E' w0 h' d) := by
  obtain ⟨e1, e2⟩ := put_hp s.tm h' u' dst v
  refine ⟨E', d, put_tm ht he dst v h' u', by rw [put_def, hd], by rw [e1], by rw [e1]; exact hE, by rw [e2]; exact hs⟩

theorem put_undef {A : Option Addr × Nat × Nat} {u0 : Nat} {E0 : Env} {s : St} {a : Act} {w : World} (h : Rep A w0 u0 E0 s a w) (dst : Option Tmp) : Rep A w0 u0 E0 (s.put dst undef) (a.put dst undef) w := by
  obtain ⟨E, d, h1, h2, rfl, h4, h5⟩ := h
  have := put_rep (E := E) (d := d) h1 h2 rfl dst undef h4 h5
  rwa [sh_undef] at this

theorem sh_eq_bool {v : Value} {b : Bool} (h : sh E v = .bool b) : v = .bool b := by
  cases v with
  | pointer a => cases a <;> simp [sh_ptr, sh_ptr0] at h
  | slice a l c => cases a <;> simp [sh_slice, sh_slice0] at h
  | map a => cases a <;> simp [sh_map, sh_map0] at h
  | chan a => cases a <;> simp [sh_chan, sh_chan0] at h
  | bool x => simpa [sh_bool] using h
  | _ => simp [sh_nilIface, sh_agg, sh_tuple, sh_func, sh_iface, sh_int, sh_string, sh_nilFunc, sh_float, sh_complex] at h

theorem want_eq {ops : Array Oper} {tm : List Value} {a : Act} (ht : a.tmps = (tm.map (sh E)).toArray) (o : Oper) :
    Region.wanted o (yielded ops a.tmps) = wantR ops.toList tm o := by
  unfold Region.wanted wantR
  cases hg : o.guard with
  | none => rfl
  | some q =>
    obtain ⟨j, want⟩ := q
    simp only [yielded]
    cases hj : ops[j]? with
    | none => simp [hj]
    | some p =>
      simp only [Array.getElem?_toList, hj, Option.bind_some]
      cases hd : p.dst with
      | none => simp
      | some t =>
        simp only [Option.bind_some, ht, List.getElem?_toArray, List.getElem?_map]
        cases htm : tm[t]? with
        | none => simp
        | some v =>
          simp only [Option.map_some]
          cases hv : sh E v with
          | bool b => rw [sh_eq_bool hv]; simp
          | _ =>
            cases v with
            | bool b => simp [sh_bool] at hv
            | _ => simp

theorem mem_putAll {tm : List Value} {dst : Option Tmp} : ∀ {outs : Outs} {v : Value} {h : List Obj} {u : Nat}, (v, h, u) ∈ outs → St.put ⟨tm, h, u⟩ dst v ∈ putAll tm dst outs := by
  intro outs
  induction outs with
  | nil => intro v h u hm; cases hm
  | cons x outs ih =>
    intro v h u hm
    obtain ⟨v', h', u'⟩ := x
    simp only [putAll, List.mem_cons]
    rcases List.mem_cons.1 hm with he | hm
    · cases he; exact .inl rfl
    · exact .inr (ih hm)

theorem same_tm {E E' : Env} {u u' : Nat} {tm : List Value} (hN : E'.N = E.N) (ha : (E'.ap, E'.al, E'.ac) = (E.ap, E.al, E.ac)) (hs : Same u u' E E') (hc : u' = u ∨ tm.all (okV u 9) = true) : tm.map (sh E') = tm.map (sh E) := by
  rcases hc with rfl | hc
  · apply List.map_congr_left
    intro v _
    have hall : ∀ i, E'.nan i = E.nan i ∧ E'.cap i = E.cap i := fun i => hs.2 i (by omega)
    simp only [Prod.mk.injEq] at ha
    refine sh_congr (fun a => by simp [shA, hN]) (fun c => ?_) (fun c => ?_) hN ha v
    · unfold unkC; split
      · rfl
      · exact (hall _).2
    · unfold unkF; split
      · rfl
      · exact (hall _).1
  · exact List.map_congr_left fun v hv => okV_sh hN ha (fun i hi => hs.2 i (.inl hi)) 9 v (List.all_eq_true.1 hc v hv)

theorem op_wp {A : Option Addr × Nat × Nat} {u0 : Nat} {E0 : Env} (hNG : ∀ (f : Nat) (fn : Func), P.funcs[f]? = some fn → fn.name ≠ "runtime.NumGoroutine") {call : CallF} (hc : CallOK P A w0 call) {ops : Array Oper} {o : Oper} {s : St} {outs : List St}
    (h : opR P call ops.toList o s = some outs) {a : Act} {w : World} (hr : Rep A w0 u0 E0 s a w) {K : Act → World → Prop} {Q : Exit → Act → World → Prop}
    (hK : ∀ s' ∈ outs, ∀ a' w', Rep A w0 u0 E0 s' a' w' → K a' w') :
    if Region.wanted o (yielded ops a.tmps) then o.wp P a w K Q else K (a.put o.dst undef) w := by
  have hr0 := hr
  obtain ⟨E, d, ht, hdf, hw, hE, hsm⟩ := hr
  rw [want_eq ht]
  unfold opR at h
  split at h
  · rename_i hwt
    rw [if_pos hwt]
    split at h
    · rename_i hx
      have hρ : ∀ x ∈ o.op.operands, a.eval x = sh E (rho s.tm x) := fun x hxm => eval_rho ht (List.all_eq_true.1 hx x (by simpa using hxm))
      unfold Oper.wp
      split at h
      · rename_i v hv
        cases h
        rw [pure_run hE.nan hρ hv w, hw]
        exact hK _ (by simp) _ _ (put_rep (d := d) ht hdf rfl o.dst v hE hsm)
      · split at h
        · rename_i outs' ho
          cases h
          obtain ⟨v, h', u', d', nx, E', hm, hrun, hnx, hE', hs', he'⟩ := heap_run hE hρ ho d
          rw [hw, hrun]
          rcases hnx with rfl | ⟨rfl, rfl⟩
          · exact hK _ (mem_putAll hm) _ _ (put_rep ht hdf he' o.dst v hE' (hsm.trans hs'))
          · have := put_rep (d := d') ht hdf he' o.dst undef hE' (hsm.trans hs')
            rw [sh_undef] at this
            exact hK _ (mem_putAll hm) _ _ this
        · split at h
          · rename_i f args hcall
            split at h
            · rename_i outs' ho
              split at h
              · rename_i hoo
                cases h
                obtain ⟨⟨fn, hfn, hb⟩, hcalls⟩ := hc E f args s.hp s.u outs' d hE ho
                rw [hw, call_run hE.hN hρ hcall hfn hb (hNG f fn hfn) d]
                refine Calls.mono hcalls ?_
                rintro e w' ⟨v, h', u', d', E', hm, rfl, rfl, hE', hs'⟩
                have hcond := List.all_eq_true.1 hoo _ hm
                simp only [Bool.or_eq_true, Bool.and_eq_true, decide_eq_true_eq] at hcond
                have he' : s.tm.map (sh E') = s.tm.map (sh E) :=
                  same_tm (hE'.hN.trans hE.hN.symm) (hE'.arg.trans hE.arg.symm) hs' (hcond.imp id (fun h => h.2))
                exact hK _ (mem_putAll hm) _ _ (put_rep ht hdf he' o.dst v hE' (hsm.trans hs'))
              · cases h
            · cases h
          · cases h
    · cases h
  · rename_i hwt
    cases h
    rw [if_neg hwt]
    exact hK _ (by simp) _ _ (put_undef hr0 o.dst)

theorem mem_bindAll {f : St → Option (List St)} : ∀ {l outs : List St}, bindAll f l = some outs → ∀ s ∈ l, ∃ o, f s = some o ∧ ∀ x ∈ o, x ∈ outs := by
  intro l
  induction l with
  | nil => intro outs _ s hs; cases hs
  | cons t l ih =>
    intro outs h s hs
    simp only [bindAll] at h
    split at h
    · rename_i a b ha hb
      cases h
      rcases List.mem_cons.1 hs with rfl | hs
      · exact ⟨a, ha, fun x hx => List.mem_append_left _ hx⟩
      · obtain ⟨o, ho, hm⟩ := ih hb s hs
        exact ⟨o, ho, fun x hx => List.mem_append_right _ (hm x hx)⟩
    · cases h

theorem ops_wp {A : Option Addr × Nat × Nat} {u0 : Nat} {E0 : Env} (hNG : ∀ (f : Nat) (fn : Func), P.funcs[f]? = some fn → fn.name ≠ "runtime.NumGoroutine") {call : CallF} (hc : CallOK P A w0 call) {ops : Array Oper} {Q : Exit → Act → World → Prop} :
    ∀ {l : List Oper} {s : St} {outs : List St} {a : Act} {w : World}, opsR P call ops.toList l s = some outs → Rep A w0 u0 E0 s a w →
    (∀ s' ∈ outs, ∀ a' w', Rep A w0 u0 E0 s' a' w' → Q .normal a' w') → wpList P ops Q l a w := by
  intro l
  induction l with
  | nil =>
    intro s outs a w h hr hQ
    simp only [opsR, Option.some.injEq] at h
    subst h
    exact hQ s (by simp) a w hr
  | cons o l ih =>
    intro s outs a w h hr hQ
    have key : ∀ l', opR P call ops.toList o s = some l' → (∀ s' ∈ l', ∃ o', opsR P call ops.toList l s' = some o' ∧ ∀ x ∈ o', x ∈ outs) → wpList P ops Q (o :: l) a w := by
      intro l' hl' hm
      refine wpList_step fun K hK => ?_
      refine op_wp hNG hc hl' hr fun s' hs' a' w' hr' => hK a' w' ?_
      obtain ⟨o', ho', hsub⟩ := hm s' hs'
      exact ih ho' hr' fun x hx => hQ x (hsub x hx)
    simp only [opsR] at h
    split at h
    · rename_i s1 h1
      exact key _ h1 (by simpa using ⟨outs, h, fun x hx => hx⟩)
    · rename_i l1 hne h1
      exact key _ h1 (mem_bindAll h)
    · cases h
end
end Go.Rel
