import Derived.Test.Qxb6500371aEvF
set_option linter.unusedSimpArgs false
set_option linter.unusedVariables false
namespace Go.Rel
section
variable {P : Program} {E : Env} {w0 : World}

/-- The true frame and world of a relative state. -/
def Rep (E : Env) (w0 : World) (s : St) (a : Act) (w : World) : Prop :=
  a.tmps = (s.tm.map (sh E)).toArray ∧ a.defers = [] ∧ ∃ d, w = mk E w0 s.hp d

def CallOK (P : Program) (E : Env) (w0 : World) (call : CallF) : Prop :=
  ∀ f args h outs d, call f args h = some outs →
    (∃ fn, P.funcs[f]? = some fn ∧ fn.body.isSome = true) ∧
    Calls P f ((args.map (sh E)).toArray) (mk E w0 h d) fun e w' => ∃ v h' d', (v, h') ∈ outs ∧ e = .returned (sh E v) ∧ w' = mk E w0 h' d'

theorem eval_rho {tm : List Value} {a : Act} (ht : a.tmps = (tm.map (sh E)).toArray) {x : Operand} (hx : xOk x = true) : a.eval x = sh E (rho tm x) := by
  cases x with
  | tmp t =>
    simp only [Act.eval, rho, ht]
    rw [← getD_sh]
    simp
  | const v => simp only [Act.eval, rho]; exact (sh_scal E hx).symm
  | global g => simp [xOk] at hx
  | func f => simp [Act.eval, rho, sh_func]

theorem put_rep {s : St} {a : Act} {w : World} (h : Rep E w0 s a w) (dst : Option Tmp) (v : Value) : Rep E w0 (s.put dst v) (a.put dst (sh E v)) w := by
  obtain ⟨h1, h2, d, h3⟩ := h
  cases dst with
  | none => exact ⟨h1, h2, d, h3⟩
  | some t =>
    refine ⟨?_, h2, d, h3⟩
    simp only [Act.put, St.put, h1, List.setIfInBounds_toArray, List.map_set]

theorem put_rep' {s : St} {a : Act} {w : World} (h : Rep E w0 s a w) (dst : Option Tmp) (v : Value) (h' : List Obj) (d' : Nat) :
    Rep E w0 (St.put ⟨s.tm, h'⟩ dst v) (a.put dst (sh E v)) (mk E w0 h' d') :=
  put_rep (s := ⟨s.tm, h'⟩) ⟨h.1, h.2.1, d', rfl⟩ dst v

theorem put_undef {s : St} {a : Act} {w : World} (h : Rep E w0 s a w) (dst : Option Tmp) : Rep E w0 (s.put dst undef) (a.put dst undef) w := by
  have := put_rep h dst undef
  rwa [sh_undef] at this

theorem sh_eq_bool {v : Value} {b : Bool} (h : sh E v = .bool b) : v = .bool b := by
  cases v with
  | pointer a => cases a <;> simp [sh_ptr, sh_ptr0] at h
  | slice a l c => cases a <;> simp [sh_slice, sh_slice0] at h
  | map a => cases a <;> simp [sh_map, sh_map0] at h
  | chan a => cases a <;> simp [sh_chan, sh_chan0] at h
  | bool x => simpa [sh_bool] using h
  | _ => simp [sh_nilIface, sh_agg, sh_tuple, sh_func, sh_iface, sh_int, sh_string, sh_nilFunc, sh_float, sh_complex] at h

theorem want_eq {ops : Array Oper} {tm : List Value} {a : Act} (ht : a.tmps = (tm.map (sh E)).toArray) (o : Oper) :
    Region.wanted o (yielded ops a.tmps) = wantR ops.toList tm o := by
  unfold Region.wanted wantR
  cases hg : o.guard with
  | none => rfl
  | some q =>
    obtain ⟨j, want⟩ := q
    simp only [yielded]
    cases hj : ops[j]? with
    | none => simp [hj]
    | some p =>
      simp only [Array.getElem?_toList, hj, Option.bind_some]
      cases hd : p.dst with
      | none => simp
      | some t =>
        simp only [Option.bind_some, ht, List.getElem?_toArray, List.getElem?_map]
        cases htm : tm[t]? with
        | none => simp
        | some v =>
          simp only [Option.map_some]
          cases hv : sh E v with
          | bool b => rw [sh_eq_bool hv]; simp
          | _ =>
            cases v with
            | bool b => simp [sh_bool] at hv
            | _ => simp

theorem mem_putAll {tm : List Value} {dst : Option Tmp} : ∀ {outs : Outs} {v : Value} {h : List Obj}, (v, h) ∈ outs → St.put ⟨tm, h⟩ dst v ∈ putAll tm dst outs := by
  intro outs
  induction outs with
  | nil => intro v h hm; cases hm
  | cons x outs ih =>
    intro v h hm
    obtain ⟨v', h'⟩ := x
    simp only [putAll, List.mem_cons]
    rcases List.mem_cons.1 hm with he | hm
    · cases he; exact .inl rfl
    · exact .inr (ih hm)

theorem op_wp (hN : E.N = w0.heap.size) (hNG : ∀ (f : Nat) (fn : Func), P.funcs[f]? = some fn → fn.name ≠ "runtime.NumGoroutine") {call : CallF} (hc : CallOK P E w0 call) {ops : Array Oper} {o : Oper} {s : St} {outs : List St}
    (h : opR P call ops.toList o s = some outs) {a : Act} {w : World} (hr : Rep E w0 s a w) {K : Act → World → Prop} {Q : Exit → Act → World → Prop}
    (hK : ∀ s' ∈ outs, ∀ a' w', Rep E w0 s' a' w' → K a' w') :
    if Region.wanted o (yielded ops a.tmps) then o.wp P a w K Q else K (a.put o.dst undef) w := by
  rw [want_eq hr.1]
  unfold opR at h
  split at h
  · rename_i hw
    rw [if_pos hw]
    split at h
    · rename_i hx
      have hρ : ∀ x ∈ o.op.operands, a.eval x = sh E (rho s.tm x) := fun x hxm => eval_rho hr.1 (List.all_eq_true.1 hx x (by simpa using hxm))
      unfold Oper.wp
      split at h
      · rename_i v hv
        cases h
        rw [pure_run hρ hv w]
        exact hK _ (by simp) _ _ (put_rep hr o.dst v)
      · obtain ⟨d, hd⟩ := hr.2.2
        split at h
        · rename_i outs' ho
          cases h
          obtain ⟨v, h', d', nx, hm, hrun, hnx⟩ := heap_run hN hρ ho d
          rw [hd, hrun]
          rcases hnx with rfl | ⟨rfl, rfl⟩
          · exact hK _ (mem_putAll hm) _ _ (put_rep' hr o.dst v h' d')
          · have := put_rep' hr o.dst undef h' d'
            rw [sh_undef] at this
            exact hK _ (mem_putAll hm) _ _ this
        · split at h
          · rename_i f args hcall
            split at h
            · rename_i outs' ho
              cases h
              obtain ⟨⟨fn, hfn, hb⟩, hcalls⟩ := hc f args s.hp outs' d ho
              rw [hd, call_run hN hρ hcall hfn hb (hNG f fn hfn) d]
              refine Calls.mono hcalls ?_
              rintro e w' ⟨v, h', d', hm, rfl, rfl⟩
              exact hK _ (mem_putAll hm) _ _ (put_rep' hr o.dst v h' d')
            · cases h
          · cases h
    · cases h
  · rename_i hw
    cases h
    rw [if_neg hw]
    exact hK _ (by simp) _ _ (put_undef hr o.dst)

theorem mem_bindAll {f : St → Option (List St)} : ∀ {l outs : List St}, bindAll f l = some outs → ∀ s ∈ l, ∃ o, f s = some o ∧ ∀ x ∈ o, x ∈ outs := by
  intro l
  induction l with
  | nil => intro outs _ s hs; cases hs
  | cons t l ih =>
    intro outs h s hs
    simp only [bindAll] at h
    split at h
    · rename_i a b ha hb
      cases h
      rcases List.mem_cons.1 hs with rfl | hs
      · exact ⟨a, ha, fun x hx => List.mem_append_left _ hx⟩
      · obtain ⟨o, ho, hm⟩ := ih hb s hs
        exact ⟨o, ho, fun x hx => List.mem_append_right _ (hm x hx)⟩
    · cases h

theorem ops_wp (hN : E.N = w0.heap.size) (hNG : ∀ (f : Nat) (fn : Func), P.funcs[f]? = some fn → fn.name ≠ "runtime.NumGoroutine") {call : CallF} (hc : CallOK P E w0 call) {ops : Array Oper} {Q : Exit → Act → World → Prop} :
    ∀ {l : List Oper} {s : St} {outs : List St} {a : Act} {w : World}, opsR P call ops.toList l s = some outs → Rep E w0 s a w →
    (∀ s' ∈ outs, ∀ a' w', Rep E w0 s' a' w' → Q .normal a' w') → wpList P ops Q l a w := by
  intro l
  induction l with
  | nil =>
    intro s outs a w h hr hQ
    simp only [opsR, Option.some.injEq] at h
    subst h
    exact hQ s (by simp) a w hr
  | cons o l ih =>
    intro s outs a w h hr hQ
    have key : ∀ l', opR P call ops.toList o s = some l' → (∀ s' ∈ l', ∃ o', opsR P call ops.toList l s' = some o' ∧ ∀ x ∈ o', x ∈ outs) → wpList P ops Q (o :: l) a w := by
      intro l' hl' hm
      refine wpList_step fun K hK => ?_
      refine op_wp hN hNG hc hl' hr fun s' hs' a' w' hr' => hK a' w' ?_
      obtain ⟨o', ho', hsub⟩ := hm s' hs'
      exact ih ho' hr' fun x hx => hQ x (hsub x hx)
    simp only [opsR] at h
    split at h
    · rename_i s1 h1
      exact key _ h1 (by simpa using ⟨outs, h, fun x hx => hx⟩)
    · rename_i l1 hne h1
      exact key _ h1 (mem_bindAll h)
    · cases h
end
end Go.Rel
