import Derived.Test.Qxb6500374aEvE
set_option linter.unusedSimpArgs false
set_option linter.unusedVariables false
namespace Go.Rel
section
variable {P : Program} {E : Env} {w0 : World}

def shP (E : Env) : Value ⊕ Addr → Go.Place
  | .inl v => .val (sh E v)
  | .inr a => .var (shA E a)

theorem get_run (hN : E.N = w0.heap.size) {h : List Obj} {d : Nat} {t : TypeId} {x : Value ⊕ Addr} {v : Value} (hg : getP P h t x = some v) :
    (Go.Place.get t (shP E x)).run P (mk E w0 h d) = .ok (sh E v) (mk E w0 h d) := by
  cases x with
  | inl u => simp only [getP, Option.some.injEq] at hg; subst hg; simp [shP, Go.Place.get]
  | inr a => exact load_run hN hg

theorem follow_run (hN : E.N = w0.heap.size) {h : List Obj} {d : Nat} : ∀ {path : List FieldStep} {t t' : TypeId} {x x' : Value ⊕ Addr}, followR P h path t x = some (t', x') →
    (Go.follow path t (shP E x)).run P (mk E w0 h d) = .ok (t', shP E x') (mk E w0 h d) := by
  intro path
  induction path with
  | nil => intro t t' x x' hf; simp only [followR, Option.some.injEq, Prod.mk.injEq] at hf; obtain ⟨rfl, rfl⟩ := hf; simp [Go.follow]
  | cons s rest ih =>
    intro t t' x x' hf
    simp only [followR] at hf
    split at hf
    · cases hf
    · rename_i f hgf
      obtain ⟨fs, hu, hfs⟩ := getF_some hgf
      simp only [Go.follow, Sem.run_bind, run_under hu, Result.andThen_ok, hfs]
      split at hf
      · rename_i hd
        split at hf
        · rename_i a hga
          split at hf
          · rename_i b hb
            obtain ⟨f', hf', hplace⟩ := fieldPlace_run (E := E) hb
            rw [hgf] at hf'
            cases hf'
            simp only [hd, if_true, Sem.run_bind, get_run hN hga, Result.andThen_ok, sh_ptr, asAddr, Sem.run_pure, hplace]
            exact ih hf
          · cases hf
        · cases hf
      · rename_i hd
        simp only [hd, Bool.false_eq_true, if_false]
        split at hf
        · rename_i a
          split at hf
          · rename_i b hb
            obtain ⟨f', hf', hplace⟩ := fieldPlace_run (E := E) hb
            rw [hgf] at hf'
            cases hf'
            simp only [shP, Sem.run_bind, hplace, Result.andThen_ok]
            exact ih hf
          · cases hf
        · rename_i cs
          split at hf
          · rename_i v hv
            have := run_part' (E := E) hv (mk E w0 h d)
            simp only [shP, sh_agg, arr_map, Sem.run_bind, this, Result.andThen_ok]
            exact ih hf
          · cases hf
        · cases hf

theorem recv_run (hN : E.N = w0.heap.size) {h : List Obj} {d : Nat} {xt : TypeId} {x : Value ⊕ Addr} {ptr : Bool} {v : Value} (wrap : Option String) (hr : recvR P h xt x ptr = some v) :
    (Go.receiverAt xt (shP E x) ptr wrap).run P (mk E w0 h d) = .ok (sh E v) (mk E w0 h d) := by
  cases hu : tyU P xt with
  | none => simp [recvR, hu] at hr
  | some dsc =>
    simp only [Go.receiverAt, Sem.run_bind, run_under hu, Result.andThen_ok]
    cases ptr with
    | true =>
      cases dsc with
      | pointer e =>
        simp only [recvR, hu] at hr
        exact get_run hN hr
      | _ =>
        cases x with
        | inl u => simp [recvR, hu] at hr
        | inr a => simp only [recvR, hu, Option.some.injEq] at hr; subst hr; simp [shP, sh_ptr]
    | false =>
      cases dsc with
      | pointer e => simp [recvR, hu] at hr
      | _ =>
        simp only [recvR, hu] at hr
        exact get_run hN hr

theorem method_run (hN : E.N = w0.heap.size) {h : List Obj} {d : Nat} {name : String} : ∀ {n F : Nat} {t : TypeId} {v r : Value} {f : FuncId}, n ≤ F → methodR P h name n t v = some (f, r) →
    (Go.method F t (sh E v) name).run P (mk E w0 h d) = .ok (f, sh E r) (mk E w0 h d) := by
  intro n
  induction n with
  | zero => intro F t v r f _ hm; simp [methodR] at hm
  | succ n ih =>
    intro F t v r f hle hm
    cases F with
    | zero => omega
    | succ F =>
      simp only [methodR] at hm
      split at hm
      · cases hm
      · rename_i i hi
        split at hm
        · cases hm
        · rename_i m hfm
          have hfm' : i.methods.find? (fun m => m.name == name) = some m := by simpa using hfm
          split at hm
          · cases hm
          · rename_i xt x hfo
            have h1 := follow_run (E := E) (w0 := w0) (d := d) hN hfo
            have h1 : (Go.follow m.path.toList t (Place.val (sh E v))).run P (mk E w0 h d) = .ok (xt, shP E x) (mk E w0 h d) := h1
            simp only [Go.method, Sem.run_bind, run_info hi, Result.andThen_ok, hfm', h1]
            split at hm
            · rename_i hfn
              simp only [hfn]
              split at hm
              · rename_i t' v' hg
                simp only [Sem.run_bind, get_run hN hg, Result.andThen_ok, sh_iface]
                exact ih (Nat.le_of_succ_le_succ hle) hm
              · cases hm
            · rename_i f' ptr hfn
              simp only [hfn]
              split at hm
              · rename_i r' hr
                cases hm
                simp only [Sem.run_bind, recv_run hN _ hr, Result.andThen_ok, Sem.run_pure]
              · cases hm

theorem callFunc_run {f : FuncId} {fn : Func} (hf : P.funcs[f]? = some fn) (hb : fn.body.isSome = true) (hn : fn.name ≠ "runtime.NumGoroutine") (args : Array Value) (w : World) :
    (callFunc f args).run P w = .ok (.enter f args) w := by
  have hnone : fn.body.isNone = false := by cases h : fn.body <;> simp_all
  simp only [callFunc, Sem.run_bind, run_program, Result.andThen_ok, hf, beq_eq_false_iff_ne.2 hn, hnone, Bool.false_eq_true, if_false, Sem.run_pure]

theorem call_run (hN : E.N = w0.heap.size) {ρ ev : Operand → Value} {o : Oper} {h : List Obj} {f : FuncId} {fn : Func} {args : List Value} (hρ : ∀ x ∈ o.op.operands, ev x = sh E (ρ x)) (he : callR P ρ h o = some (f, args))
    (hf : P.funcs[f]? = some fn) (hb : fn.body.isSome = true) (hn : fn.name ≠ "runtime.NumGoroutine") (d : Nat) :
    (execOp ev o).run P (mk E w0 h d) = .ok (.enter f ((args.map (sh E)).toArray)) (mk E w0 h d) := by
  obtain ⟨dst, op, type, pos, after, guard⟩ := o
  cases op with
  | call c =>
    obtain ⟨callee, cargs, argTypes⟩ := c
    simp only [callR] at he
    have hargs : cargs.map ev = ((cargs.toList.map ρ).map (sh E)).toArray := by
      rw [← Array.toList_inj]
      simp only [Array.toList_map, List.map_map]
      apply List.map_congr_left
      intro y hy
      exact hρ y (by simp only [Op.operands, Call.operands]; simp; right; simpa using hy)
    split at he
    · rename_i fo
      have hfo := hρ fo (by simp [Op.operands, Call.operands])
      split at he
      · rename_i g first captured hv
        cases he
        simp only [execOp, resolve, Deferred.ofValue, invoke, Sem.run_bind, Result.andThen_ok, hfo, hv, sh_func, Sem.run_pure, hargs, callFunc_run hf hb hn]
        congr 2
        rw [← Array.toList_inj]
        simp
      · rename_i name first captured hv
        split at he
        · rename_i t v rest hl
          split at he
          · rename_i g r hm
            cases he
            have hmr := method_run (E := E) (w0 := w0) (d := d) (F := P.types.size + Made.depth) hN (by unfold Made.depth; omega) hm
            have hall : first.map (sh E) ++ ((cargs.toList.map ρ).map (sh E)).toArray = ((Value.iface t v :: rest).map (sh E)).toArray := by
              rw [← hl, ← Array.toList_inj]
              simp
            simp only [execOp, resolve, Deferred.ofValue, invoke, Sem.run_bind, Result.andThen_ok, hfo, hv, sh_func, Sem.run_pure, hargs, hall]
            simp only [List.map_cons, sh_iface]
            simp [callMethod, hmr, callFunc_run hf hb hn]
            rw [List.take_of_length_le (by simp)]
          · cases he
        · cases he
      · cases he
    · rename_i r name
      have hr := hρ r (by simp [Op.operands, Call.operands])
      split at he
      · rename_i t v hv
        split at he
        · rename_i g r' hm
          cases he
          have hmr := method_run (E := E) (w0 := w0) (d := d) (F := P.types.size + Made.depth) hN (by unfold Made.depth; omega) hm
          simp only [execOp, resolve, invoke, Sem.run_bind, Result.andThen_ok, hr, hv, sh_iface, Sem.run_pure, hargs]
          simp [callMethod, hmr, callFunc_run hf hb hn]
          all_goals (rw [List.take_of_length_le (by simp)])
        · cases he
      · cases he
    · cases he
  | _ => simp [callR] at he
end
end Go.Rel
