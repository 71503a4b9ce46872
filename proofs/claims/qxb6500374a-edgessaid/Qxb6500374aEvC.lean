import Derived.Test.Qxb6500374aEvB
set_option linter.unusedSimpArgs false
set_option linter.unusedVariables false
namespace Go.Rel
section
variable {P : Program} {E : Env}

theorem bnd_run {x : Option Value} {d y r : Nat} {code : BoundsCode} (h : bndR x d y = some r) (w : World) :
    (match x with | some v => Instr.sliceBound (sh E v) y code | none => pure d).run P w = .ok r w := by
  unfold bndR at h
  split at h
  · cases h; simp
  · rename_i k i
    split at h
    · rename_i hi
      cases h
      simp [Instr.sliceBound, sh_int, asIntOf, hi]
    · cases h
  · cases h

theorem pure_run (hG : NanOK E) {ρ ev : Operand → Value} {o : Oper} {v : Value} (hρ : ∀ x ∈ o.op.operands, ev x = sh E (ρ x)) (h : pureR P ρ o = some v) (w : World) :
    (execOp ev o).run P w = .ok (.value (sh E v)) w := by
  obtain ⟨dst, op, type, pos, after, guard⟩ := o
  cases op with
  | move x => simp only [pureR, Option.some.injEq] at h; subst h; simp [execOp, hρ x (by simp [Op.operands])]
  | assign x => simp only [pureR, Option.some.injEq] at h; subst h; simp [execOp, hρ x (by simp [Op.operands])]
  | pick c a b =>
    simp only [pureR] at h
    split at h
    · rename_i t ht
      cases h
      simp only [execOp, Sem.run_bind, hρ c (by simp [Op.operands]), hρ a (by simp [Op.operands]), hρ b (by simp [Op.operands]), ht, sh_bool, asBool]
      cases t <;> simp
    · cases h
  | nilCheck x =>
    simp only [pureR] at h
    split at h
    · rename_i a ha; cases h; simp [execOp, hρ x (by simp [Op.operands]), ha, sh_ptr]
    · rename_i t y ha; cases h; simp [execOp, hρ x (by simp [Op.operands]), ha, sh_iface]
    · rename_i f a b ha; cases h; simp [execOp, hρ x (by simp [Op.operands]), ha, sh_func]
    · cases h
  | binOp op t x y yt =>
    simp only [pureR] at h
    have := bin_run (E := E) hG h w
    simp only [execOp, Sem.run_bind, hρ x (by simp [Op.operands]), hρ y (by simp [Op.operands])] at this ⊢
    rw [this]
    simp
  | unOp op t x =>
    simp only [pureR] at h
    split at h
    · rename_i hs
      obtain ⟨hp, hv⟩ := scalO_some h
      simp only [execOp, Sem.run_bind, hρ x (by simp [Op.operands]), sh_scal E hs, prun_run hp w, Result.andThen_ok, Sem.run_pure, sh_scal E hv]
    · cases h
  | convert src dst x =>
    simp only [pureR] at h
    split at h
    · rename_i hs
      obtain ⟨hp, hv⟩ := scalO_some h
      simp only [execOp, Sem.run_bind, hρ x (by simp [Op.operands]), sh_scal E hs, prun_run hp w, Result.andThen_ok, Sem.run_pure, sh_scal E hv]
    · cases h
  | makeInterface t x =>
    simp only [pureR] at h
    split at h
    · cases h
    · rename_i d hni hu
      cases h
      simp only [execOp, Instr.makeInterface, Sem.run_bind, run_under hu, Result.andThen_ok, hρ x (by simp [Op.operands])]
      cases d <;> first
        | (exact absurd rfl (hni _))
        | simp [sh_iface]
    · cases h
  | makeFunc fn first captured =>
    simp only [pureR, Option.some.injEq] at h
    subst h
    simp only [execOp, Instr.makeFunc, Sem.run_bind, Sem.run_pure, Result.andThen_ok, sh_func]
    congr 3
    · rw [← Array.toList_inj]
      simp only [Array.toList_map, List.map_map]
      apply List.map_congr_left
      intro x hx
      exact hρ x (by simp [Op.operands]; left; simpa using hx)
    · rw [← Array.toList_inj]
      simp only [Array.toList_map, List.map_map]
      apply List.map_congr_left
      intro x hx
      exact hρ x (by simp [Op.operands]; right; simpa using hx)
  | fieldAddr s x i =>
    simp only [pureR] at h
    split at h
    · rename_i a ha
      split at h
      · rename_i b hb
        cases h
        obtain ⟨f, hf, hrun⟩ := fieldPlace_run (E := E) hb
        obtain ⟨fs, hu, hfs⟩ := getF_some hf
        simp [execOp, Instr.fieldAt, run_under hu, hfs, hρ x (by simp [Op.operands]), ha, sh_ptr, Instr.sureAddr, hrun]
      · cases h
    · cases h
  | field s x i =>
    simp only [pureR] at h
    split at h
    · rename_i cs f hcs hf
      obtain ⟨fs, hu, hfs⟩ := getF_some hf
      have := run_part' (E := E) h w
      simp only [execOp, Instr.field, Sem.run_bind, run_under hu, Result.andThen_ok, hfs, hρ x (by simp [Op.operands]), hcs, sh_agg, asAgg, Sem.run_pure, arr_map, this]
    · cases h
  | indexAddr t x ix =>
    simp only [pureR] at h
    split at h
    · rename_i n e a k i hu hx hi
      split at h
      · rename_i hc
        obtain ⟨hsp, h0, h1⟩ := hc
        split at h
        · rename_i z hz
          cases h
          simp [execOp, Instr.indexAt, hρ x (by simp [Op.operands]), hρ ix (by simp [Op.operands]), hx, hi, sh_int, sh_ptr, asIntOf, run_under hu, Instr.sureAddr, h0, h1, run_size hz, add_sh a _ hsp]
        · cases h
      · cases h
    · rename_i e a n c k i hu hx hi
      split at h
      · rename_i hc
        obtain ⟨hsp, h0, h1⟩ := hc
        split at h
        · rename_i z hz
          cases h
          simp [execOp, Instr.indexAt, hρ x (by simp [Op.operands]), hρ ix (by simp [Op.operands]), hx, hi, sh_int, sh_ptr, sh_slice, asIntOf, run_under hu, Instr.sureAddr, h0, h1, run_size hz, add_sh a _ hsp]
        · cases h
      · cases h
    · cases h
  | index t x ix =>
    simp only [pureR] at h
    split at h
    · rename_i n e cs k i hu hx hi
      split at h
      · rename_i hc
        obtain ⟨h0, h1⟩ := hc
        split at h
        · rename_i z hz
          have := run_part' (E := E) h w
          simp [execOp, Instr.index, hρ x (by simp [Op.operands]), hρ ix (by simp [Op.operands]), hx, hi, sh_int, sh_agg, asIntOf, run_under hu, h0, h1, run_size hz, arr_map, this]
        · cases h
      · cases h
    · cases h
  | slice t x lo hi mx =>
    simp only [pureR] at h
    split at h
    · rename_i n e a hu hx
      split at h
      · rename_i hsp
        obtain ⟨hsp, hcap⟩ := hsp
        split at h
        · rename_i z hh hz hhi
          split at h
          · rename_i l hl
            cases h
            have b1 := bnd_run (P := P) (E := E) (code := .sliceAlen) hhi w
            have b2 := bnd_run (P := P) (E := E) (code := .sliceB) hl w
            have e1 : ∀ y ∈ hi, ev y = sh E (ρ y) := fun y hy => hρ y (by cases hy; simp [Op.operands])
            have e2 : ∀ y ∈ lo, ev y = sh E (ρ y) := fun y hy => hρ y (by cases hy; simp [Op.operands])
            have hb : (Instr.sliceBounds false n n (lo.map ev) (hi.map ev) none).run P w = .ok (l, hh, n) w := by
              cases hi with
              | none =>
                cases lo with
                | none => simp at b1 b2; simp [Instr.sliceBounds, b1, b2]
                | some q =>
                  simp only [Option.map_none, Option.map_some] at b1 b2
                  simp at b1
                  simp [Instr.sliceBounds, b1, e2 q rfl]
                  simp [b2]
              | some p =>
                cases lo with
                | none =>
                  simp only [Option.map_none, Option.map_some] at b1 b2
                  simp at b2
                  simp [Instr.sliceBounds, e1 p rfl, b1, b2]
                | some q =>
                  simp only [Option.map_some] at b1 b2
                  simp [Instr.sliceBounds, e1 p rfl, e2 q rfl, b1, b2]
            simp only [execOp, Instr.sliceAt, Sem.run_bind, run_under hu, Result.andThen_ok, hρ x (by simp [Op.operands]), hx, sh_ptr, Instr.sureAddr, Sem.run_pure, Option.map_none, hb, run_size hz]
            have ha : (if n = l then shA E a else (shA E a).add (l * z)) = shA E (if n = l then a else addrAdd a (l * z)) := by
              split
              · rfl
              · exact add_sh a _ hsp
            rw [ha, sh_slice, unkC_lt]
            omega
          · cases h
        · cases h
      · cases h
    · cases h
  | extract t i =>
    simp only [pureR] at h
    split at h
    · rename_i vs hvs
      have hv : vs[i]? = some v := by simpa using h
      simp [execOp, Instr.extract, hρ t (by simp [Op.operands]), hvs, sh_tuple, hv]
    · cases h
  | typeAssert x xt u ok =>
    simp only [pureR] at h
    split at h
    · rename_i hok
      have := assert_run (E := E) (xt := xt) h w
      simp only [execOp, hok, hρ x (by simp [Op.operands]), Sem.run_bind, this, Result.andThen_ok, Sem.run_pure]
    · cases h
  | build t parts =>
    simp only [pureR] at h
    have := build_run (E := E) h w
    have e : (parts.map fun (x : Nat × Operand) => (x.1, ev x.2)) = (((parts.toList.map fun p => (p.1, ρ p.2)).map fun p => (p.1, sh E p.2)).toArray) := by
      rw [← Array.toList_inj]
      simp only [Array.toList_map, List.map_map]
      apply List.map_congr_left
      intro p hp
      have := hρ p.2 (by simp only [Op.operands]; simp; exact ⟨p.1, by simpa using hp⟩)
      simp [this]
    simp only [execOp, Sem.run_bind]
    rw [e, this]
    simp
  | call c =>
    obtain ⟨callee, args, argTypes⟩ := c
    simp only [pureR] at h
    split at h
    · rename_i x t hargs hts
      have ea : args = #[x] := by rw [← Array.toList_inj, hargs]
      have et : argTypes = #[t] := by rw [← Array.toList_inj, hts]
      subst ea et
      have hx := hρ x (by simp [Op.operands, Call.operands])
      split at h
      · rename_i e a n c hu hv
        cases h
        cases a with
        | none => simp [execOp, resolve, invoke, builtin, Builtin.len_, run_under hu, hx, hv, sh_slice0, goInt, sh_int]
        | some a => simp [execOp, resolve, invoke, builtin, Builtin.len_, run_under hu, hx, hv, sh_slice, goInt, sh_int]
      · rename_i b hu hv
        cases h
        simp [execOp, resolve, invoke, builtin, Builtin.len_, run_under hu, hx, hv, sh_string, goInt, sh_int]
      · rename_i n e hu
        cases h
        simp [execOp, resolve, invoke, builtin, Builtin.len_, run_under hu, goInt, sh_int]
      · cases h
    · rename_i b hb
      split at h
      · rename_i hc
        simp only [Bool.and_eq_true] at hc
        obtain ⟨hs, hk⟩ := hc
        split at h
        · rename_i u hp
          split at h
          · rename_i hv
            cases h
            have hargs : args.map ev = ⟨args.toList.map ρ⟩ := by
              rw [← Array.toList_inj]
              simp only [Array.toList_map]
              apply List.map_congr_left
              intro y hy
              rw [hρ y (by simp only [Op.operands, Call.operands]; simp; simpa using hy)]
              exact sh_scal E (List.all_eq_true.1 hs y hy)
            have hr := prun_run hp w
            simp only [execOp, resolve, invoke, Sem.run_bind, Sem.run_pure, Result.andThen_ok, hargs, sh_scal E hv]
            cases b <;> first
              | (simp [numB] at hk; done)
              | exact hr
          · cases h
        · cases h
      · cases h
    · cases h
  | _ => simp [pureR] at h
end
end Go.Rel
