import Derived.Test.Qxb6500371aEvD
set_option linter.unusedSimpArgs false
set_option linter.unusedVariables false
namespace Go.Rel
section
variable {P : Program} {E : Env} {w0 : World}

theorem map_erase {α β : Type} (f : α → β) : ∀ (l : List α) (i : Nat), (l.eraseIdx i).map f = (l.map f).eraseIdx i := by
  intro l
  induction l with
  | nil => intro i; simp
  | cons a l ih =>
    intro i
    cases i with
    | zero => simp
    | succ i => simp [ih]

theorem cand_map (es : List MapEntry) (since : Nat) (seen : List Nat) :
    candR (es.map (shE E)) since seen = (candR es since seen).map (Option.map (shE E)) := by
  have hf : ∀ (p : Nat → Bool), (es.map (shE E)).filter (fun e => p e.born) = (es.filter (fun e => p e.born)).map (shE E) := by
    intro p
    rw [List.filter_map]
    rfl
  unfold candR
  rw [hf (fun b => !seen.contains b && decide (b < since)), hf (fun b => !seen.contains b && !decide (b < since))]
  simp only [List.isEmpty_map, List.map_append, List.map_map]
  congr 1
  split <;> rfl

theorem cand_ne (es : List MapEntry) (since : Nat) (seen : List Nat) : candR es since seen ≠ [] := by
  unfold candR
  split
  · simp
  · rename_i h
    intro h'
    simp only [List.nil_append, List.map_eq_nil_iff, List.append_eq_nil_iff] at h'
    rw [h'.1] at h
    exact h rfl

theorem cand_eq (es : Array MapEntry) (since : Nat) (seen : Array Nat) :
    (if ((es.filter fun e => !seen.contains e.born).filter fun e => decide (e.born < since)).isEmpty = true then #[none] else #[]) ++
      ((es.filter fun e => !seen.contains e.born).filter (fun e => decide (e.born < since)) ++ (es.filter fun e => !seen.contains e.born).filter (fun e => decide (e.born ≥ since))).map some = (candR es.toList since seen.toList).toArray := by
  rw [← Array.toList_inj]
  simp only [Array.toList_append, Array.toList_map, Array.toList_filter, List.filter_filter]
  unfold candR
  have e1 : (es.toList.filter fun a => decide (a.born < since) && !seen.contains a.born) = es.toList.filter fun e => !seen.toList.contains e.born && decide (e.born < since) := by
    apply List.filter_congr
    intro x _
    rw [Bool.and_comm]
    simp
  have e2 : (es.toList.filter fun a => decide (a.born ≥ since) && !seen.contains a.born) = es.toList.filter fun e => !seen.toList.contains e.born && !decide (e.born < since) := by
    apply List.filter_congr
    intro x _
    rw [Bool.and_comm]
    have : decide (x.born ≥ since) = !decide (x.born < since) := by
      by_cases h : x.born < since <;> simp [h]
      omega
    rw [this]
    simp
  have e3 : ((es.filter fun e => !seen.contains e.born).filter fun e => decide (e.born < since)).isEmpty = (es.toList.filter fun e => !seen.toList.contains e.born && decide (e.born < since)).isEmpty := by
    rw [← e1, ← Array.isEmpty_toList]
    simp only [Array.toList_filter, List.filter_filter]
  rw [e1, e2, e3]
  congr 1
  split <;> rfl

theorem choose_mk (h : List Obj) (d n : Nat) (hn : 0 < n) : ∃ k d', k < n ∧ (choose (.mapNext n)).run P (mk E w0 h d) = .ok k (mk E w0 h d') := by
  by_cases h1 : n ≤ 1
  · exact ⟨0, d, hn, by simp [run_choose, Question.forced, h1]⟩
  · refine ⟨(mk E w0 h d).tape (mk E w0 h d).drawn (.mapNext n) % n, d + 1, Nat.mod_lt _ hn, ?_⟩
    rw [run_choose]
    simp only [Question.forced, h1, decide_false, Bool.false_eq_true, if_false, Question.cut]
    rfl

theorem zeros_map (n : Nat) {l : List Value} (hl : l.all scal = true) (hn : 0 < l.length) :
    (Array.range n).map (fun i => (l.toArray)[i % l.toArray.size]!) = (((List.range n).map fun i => l.getD (i % l.length) undef).map (sh E)).toArray := by
  rw [← Array.toList_inj]
  simp only [Array.toList_map, Array.toList_range, List.map_map]
  apply List.map_congr_left
  intro i _
  have hlt : i % l.length < l.length := Nat.mod_lt _ hn
  have hg : l.getD (i % l.length) undef = l[i % l.length] := by simp [List.getD, List.getElem?_eq_getElem hlt]
  have hs : scal l[i % l.length] = true := List.all_eq_true.1 hl _ (List.getElem_mem hlt)
  simp only [Function.comp_apply, hg, sh_scal E hs, List.size_toArray]
  rw [getElem!_pos _ _ (by simpa using hlt)]
  simp

theorem bytes_run (f : Value → ByteArray → Sem (ForInStep ByteArray)) (hf : ∀ n r, f (.int .u8 n) r = pure (ForInStep.yield (r.push (UInt8.ofNat n.toNat)))) :
    ∀ (vs : List Value) (l : List UInt8), bytesOfR vs = some l → ∀ (w : World) (s : ByteArray), (forIn (vs.map (sh E)) s f).run P w = .ok ⟨⟨s.data.toList ++ l⟩⟩ w := by
  intro vs
  induction vs with
  | nil => intro l h w s; simp only [bytesOfR, Option.some.injEq] at h; subst h; simp
  | cons v vs ih =>
    intro l h w s
    unfold bytesOfR at h
    split at h
    · rename_i heq; cases heq
    · rename_i n r heq
      cases heq
      split at h
      · rename_i l' hl'
        cases h
        simp only [List.map_cons, List.forIn_cons, sh_int, hf, Sem.run_bind, Sem.run_pure, Result.andThen_ok]
        rw [ih l' hl' w (s.push (UInt8.ofNat n.toNat))]
        simp [ByteArray.push]
      · cases h
    · cases h

theorem heap_run (hN : E.N = w0.heap.size) {ρ ev : Operand → Value} {o : Oper} {h : List Obj} {outs : Outs} (hρ : ∀ x ∈ o.op.operands, ev x = sh E (ρ x)) (he : heapR P ρ h o = some outs) (d : Nat) :
    Done P E w0 ev o h d outs := by
  obtain ⟨dst, op, type, pos, after, guard⟩ := o
  cases op with
  | alloc t =>
    simp only [heapR] at he
    split at he
    · rename_i z hz
      refine done_one he ?_
      have := new_run (P := P) hN h d (cellsL z) t
      rw [map_scal E (zero_scal hz)] at this
      simp [execOp, Instr.alloc, run_zero hz, newVar, cells_eq, this, sh_ptr]
    · cases he
  | box t x =>
    simp only [heapR] at he
    refine done_one he ?_
    have := new_run (P := P) hN h d (cellsL (ρ x)) t
    simp [execOp, Instr.box, newVar, cells_eq, hρ x (by simp [Op.operands]), cellsL_sh, this, sh_ptr]
  | buildSlice t len parts =>
    simp only [heapR] at he
    split at he
    · rename_i e hu
      split at he
      · rename_i z zv hz hzv
        split at he
        · rename_i hc
          split at he
          · rename_i cs hcs
            refine done_one he ?_
            have hpos : 0 < (cellsL zv).length := hc.2.2
            have hf := fill_of (E := E) _ _ _ _ hcs
            have ep : (parts.map fun (x : Nat × Operand) => (x.1, ev x.2)).toList = ((parts.toList.map fun p => (p.1, ρ p.2)).map fun p => (p.1, sh E p.2)) := by
              simp only [Array.toList_map, List.map_map]
              apply List.map_congr_left
              intro p hp
              have := hρ p.2 (by simp only [Op.operands]; simp; exact ⟨p.1, by simpa using hp⟩)
              simp [this]
            have hn := new_run (P := P) hN h d cs e
            rw [← zeros_map (E := E) (len * z) (zero_scal hzv) hpos] at hf
            simp only [execOp, Instr.buildSlice, Sem.run_bind, run_under hu, Result.andThen_ok, run_size hz]
            rw [if_neg (by omega)]
            rw [if_neg (by omega)]
            simp only [Sem.run_bind, run_zero hzv, Result.andThen_ok, Sem.run_pure, cells_eq, ep]
            rw [show ({ toList := cellsL zv } : Array Value) = (cellsL zv).toArray from rfl, hf]
            have h64 : len < 18446744073709551616 := by
              have : len ≤ len * z := Nat.le_mul_of_pos_right _ (by rcases Nat.eq_zero_or_pos z with h0 | h0; · subst h0; omega
                                                                    · exact h0)
              omega
            simp only [Sem.run_bind, hn, Result.andThen_ok, Sem.run_pure, sh_slice, unk_lt E h64]
          · cases he
        · cases he
      · cases he
    · cases he
  | load t x =>
    simp only [heapR] at he
    split at he
    · rename_i a ha
      split at he
      · rename_i v hv
        refine done_one he ?_
        simp [execOp, Instr.loadAt, Instr.sureAddr, hρ x (by simp [Op.operands]), ha, sh_ptr, load_run hN hv]
      · cases he
    · cases he
  | store t x y =>
    simp only [heapR] at he
    split at he
    · rename_i a ha
      split at he
      · rename_i h' hv
        refine done_skip he ?_
        simp [execOp, Instr.storeAt, Instr.sureAddr, hρ x (by simp [Op.operands]), hρ y (by simp [Op.operands]), ha, sh_ptr, store_run hN hv]
      · cases he
    · cases he
  | convert src dst x =>
    simp only [heapR] at he
    split at he
    · rename_i e a n c hs hd hx
      split at he
      · rename_i hu8
        have hb : tyU P e = some (.int .u8) := by
          unfold isU8T at hu8
          split at hu8
          · rename_i h; exact h
          · cases hu8
        split at he
        · rename_i vs hvs
          split at he
          · rename_i l hl
            refine done_one he ?_
            simp only [execOp, convert, Sem.run_bind, run_under hs, run_under hd, Result.andThen_ok, hρ x (by simp [Op.operands]), hx, sh_slice, run_under hb, Conv.bytesToString, rd_run hN hvs]
            rw [← Array.forIn_toList]
            rw [bytes_run (P := P) (E := E) _ (fun _ _ => rfl) vs l hl (mk E w0 h d) ByteArray.empty]
            simp [sh_string]
          · cases he
        · cases he
      · cases he
    · cases he
  | makeMap t r =>
    cases r with
    | some y => simp [heapR] at he
    | none =>
      simp only [heapR] at he
      refine done_one he ?_
      simp [execOp, Instr.makeMap, sh_map, mk_size E hN]
      have := mk_push E (w0 := w0) h d (.map #[] 0)
      simpa [shO, newR] using this
  | lookup t m k ok =>
    simp only [heapR] at he
    split at he
    · rename_i kt et r hu hm
      split at he
      · rename_i es c z hes hz
        split at he
        · rename_i hk
          split at he
          · rename_i i v hf
            refine done_one he ?_
            have := find_run (E := E) hk hf
            simp only [Option.map_some] at this
            simp only [execOp, Instr.lookup, Sem.run_bind, run_under hu, Result.andThen_ok, hρ m (by simp [Op.operands]), hρ k (by simp [Op.operands]), hm, sh_map, getObj_map hN hes, Sem.run_pure, key_run hk, this]
            cases ok <;> simp [sh_tuple, sh_bool]
          · rename_i hf
            refine done_one he ?_
            have := find_run (E := E) hk hf
            simp only [Option.map_none] at this
            simp only [execOp, Instr.lookup, Sem.run_bind, run_under hu, Result.andThen_ok, hρ m (by simp [Op.operands]), hρ k (by simp [Op.operands]), hm, sh_map, getObj_map hN hes, Sem.run_pure, key_run hk, this, run_zero hz]
            cases ok <;> simp [sh_tuple, sh_bool, sh_cells_scal E (zero_scal hz)]
          · cases he
        · cases he
      · cases he
    · cases he
  | mapUpdate t m k v =>
    simp only [heapR] at he
    split at he
    · rename_i kt et r hu hm
      split at he
      · rename_i es c hes
        split at he
        · rename_i hk
          split at he
          · rename_i i v' hf
            refine done_skip he ?_
            have hfr := find_run (E := E) hk hf
            simp only [Option.map_some] at hfr
            obtain ⟨i', e, hi, hei, hsame⟩ := find_lt hf
            have hii : i' = i := by omega
            subst hii
            have hkey : sh E e.key = sh E (ρ k) ∧ ∃ kk n, sh E (ρ k) = .int kk n := by
              unfold sameK at hsame
              split at hsame
              · rename_i k1 a k2 b e1 e2
                split at hsame
                · rename_i hkk
                  simp only [Option.some.injEq, beq_iff_eq] at hsame
                  refine ⟨?_, k1, a, by rw [e1, sh_int]⟩
                  rw [e1, e2, sh_int, sh_int, hkk, hsame]
                · cases hsame
              · cases hsame
            obtain ⟨hkey, kk, n, hint⟩ := hkey
            have hei' : es[i']? = some e := by simpa using hei
            have hstay : ∀ w, (Instr.keyThatStays ((((es.map (shE E))[i']?).map (·.key)).getD (sh E (ρ k))) (sh E (ρ k))).run P w = .ok (sh E (ρ k)) w := by
              intro w
              simp [hei', shE, hkey, Instr.keyThatStays, hint, Instr.sameBits]
            have hset := setObj_map (P := P) (d := d) hN hes (.map ⟨modE es.toList i' (ρ k) (ρ v)⟩ c)
            have eo : shO E (.map ⟨modE es.toList i' (ρ k) (ρ v)⟩ c) = .map ((es.map (shE E)).modify i' fun e => { e with key := sh E (ρ k), val := sh E (ρ v) }) c := by
              simp only [shO]
              congr 1
              apply Array.ext_getElem?
              intro j
              rw [Array.getElem?_modify]
              simp only [modE, hei, Array.getElem?_map, List.getElem?_toArray, List.getElem?_set]
              by_cases hj : i' = j
              · subst hj
                obtain ⟨hlt, hge⟩ := Array.getElem?_eq_some_iff.1 hei'
                simp [hei', shE, hlt, hge]
              · simp [hj]
            rw [eo] at hset
            simp only [execOp, Instr.mapUpdate, Sem.run_bind, run_under hu, Result.andThen_ok, hρ m (by simp [Op.operands]), hρ k (by simp [Op.operands]), hρ v (by simp [Op.operands]), hm, sh_map, getObj_map hN hes, Sem.run_pure, key_run hk, hfr, hstay, hset]
          · rename_i hf
            refine done_skip he ?_
            have hfr := find_run (E := E) hk hf
            simp only [Option.map_none] at hfr
            have hset := setObj_map (P := P) (d := d) hN hes (.map ⟨es.toList ++ [⟨ρ k, ρ v, c⟩]⟩ (c + 1))
            have eo : shO E (.map ⟨es.toList ++ [⟨ρ k, ρ v, c⟩]⟩ (c + 1)) = .map ((es.map (shE E)).push ⟨sh E (ρ k), sh E (ρ v), c⟩) (c + 1) := by
              simp only [shO]
              congr 1
              rw [← Array.toList_inj]
              simp [shE]
            rw [eo] at hset
            simp only [execOp, Instr.mapUpdate, Sem.run_bind, run_under hu, Result.andThen_ok, hρ m (by simp [Op.operands]), hρ k (by simp [Op.operands]), hρ v (by simp [Op.operands]), hm, sh_map, getObj_map hN hes, Sem.run_pure, key_run hk, hfr, hset]
          · cases he
        · cases he
      · cases he
    · cases he
  | range t x =>
    simp only [heapR] at he
    split at he
    · rename_i kt et r hu hm
      split at he
      · rename_i es c hes
        refine done_one he ?_
        have := mk_push E (w0 := w0) h d (.mapIter (some r) c #[] c)
        simp only [shO, Option.map_some] at this
        simp [execOp, Instr.range, run_under hu, hρ x (by simp [Op.operands]), hm, sh_map, getObj_map hN hes, sh_ptr, shA, mk_size E hN]
        simpa [newR] using this
      · cases he
    · cases he
  | next x isStr =>
    cases isStr with
    | true => simp [heapR] at he
    | false =>
      simp only [heapR] at he
      split at he
      · rename_i b hx
        split at he
        · rename_i m since seen last hb
          split at he
          · rename_i es c hes
            split at he
            · cases he
            · rename_i hg
              cases he
              have hpos : 0 < (candR es.toList since seen.toList).length := List.length_pos_iff.2 (cand_ne _ _ _)
              obtain ⟨k, d', hk, hch⟩ := choose_mk (P := P) (E := E) (w0 := w0) h d (candR es.toList since seen.toList).length hpos
              have hcand := cand_eq (es.map (shE E)) since seen
              rw [Array.toList_map, cand_map] at hcand
              have hgm : (!seen.isEmpty && !(es.map (shE E)).isEmpty && (es.map (shE E)).all fun e => decide (e.born ≥ last)) = false := by
                have := hg
                simp only [Bool.not_eq_true] at this
                rw [← this]
                congr 1
                · rw [← Array.isEmpty_toList, ← Array.isEmpty_toList, Array.toList_map, List.isEmpty_map]
                · rw [← Array.all_toList, Array.toList_map, List.all_map]
                  rfl
              have hget : ((List.map (Option.map (shE E)) (candR es.toList since seen.toList)).toArray)[k]? = some (((candR es.toList since seen.toList)[k]).map (shE E)) := by
                simp [hk]
              have hmem : (candR es.toList since seen.toList)[k] ∈ candR es.toList since seen.toList := List.getElem_mem hk
              have hsz : ((List.map (Option.map (shE E)) (candR es.toList since seen.toList)).toArray).size = (candR es.toList since seen.toList).length := by simp
              have hrun : (execOp ev { dst := dst, op := .next x false, type := type, pos := pos, after := after, guard := guard }).run P (mk E w0 h d) =
                  ((match ((candR es.toList since seen.toList)[k]).map (shE E) with
                    | some e => do
                      setObj (E.N + b) (.mapIter (some (E.N + m)) since (seen.push e.born) c)
                      pure (.value (.tuple #[.bool true, e.key, e.val]))
                    | none => pure (.value (.tuple #[.bool false])) : Sem Next)).run P (mk E w0 h d') := by
                simp only [execOp, Instr.next, hρ x (by simp [Op.operands]), hx, sh_ptr, shA, Sem.run_bind, getObj_iter hN hb, Result.andThen_ok, getObj_map hN hes]
                rw [hgm]
                simp only [Bool.false_eq_true, if_false]
                rw [hcand, hsz]
                simp only [Sem.run_bind, hch, Result.andThen_ok, hget]
                cases (candR es.toList since seen.toList)[k] with
                | none => rfl
                | some e =>
                  simp only [Option.map_some, Sem.run_bind]
                  generalize (setObj (E.N + b) (.mapIter (some (E.N + m)) since (seen.push (shE E e).born) c)).run P (mk E w0 h d') = r
                  cases r <;> rfl
              cases hck : (candR es.toList since seen.toList)[k] with
              | none =>
                rw [hck] at hrun hmem
                refine ⟨_, h, d', _, List.mem_map.2 ⟨none, hmem, rfl⟩, hrun, .inl ?_⟩
                simp [sh_tuple, sh_bool]
              | some e =>
                rw [hck] at hrun hmem
                have hset := setObj_iter (P := P) (d := d') hN hb (.mapIter (some m) since ⟨seen.toList ++ [e.born]⟩ c)
                refine ⟨_, _, d', _, List.mem_map.2 ⟨some e, hmem, rfl⟩, ?_, .inl rfl⟩
                rw [hrun]
                have eo : shO E (.mapIter (some m) since ⟨seen.toList ++ [e.born]⟩ c) = .mapIter (some (E.N + m)) since (seen.push e.born) c := by
                  simp only [shO, Option.map_some]
                  congr 1
                  rw [← Array.toList_inj]
                  simp
                rw [eo] at hset
                simp [hset, shE, sh_tuple, sh_bool]
          · cases he
        · cases he
      · cases he
  | entry x =>
    simp only [heapR] at he
    split at he
    · rename_i b hx
      split at he
      · rename_i m s seen stepped hb
        split at he
        · rename_i es c stamp hes hst
          split at he
          · rename_i hc
            split at he
            · rename_i e hf
              refine done_one he ?_
              have hback : seen.back? = some stamp := by simpa [Array.back?, List.getLast?_eq_getElem?] using hst
              have hfe : (es.map (shE E)).find? (fun x => x.born == stamp) = some (shE E e) := by
                rw [Array.find?_map]
                have : es.find? ((fun x => x.born == stamp) ∘ shE E) = some e := by simpa [Function.comp_def, shE] using hf
                rw [this]; rfl
              simp only [execOp, Instr.entry, hρ x (by simp [Op.operands]), hx, sh_ptr, shA, Sem.run_bind, getObj_iter hN hb, Result.andThen_ok, hback, getObj_map hN hes]
              simp [hc, hfe, sh_tuple, shE]
            · cases he
          · cases he
        · cases he
      · cases he
    · cases he
  | call c =>
    obtain ⟨callee, args, argTypes⟩ := c
    simp only [heapR] at he
    split at he
    · rename_i x t hargs hts
      have ea : args = #[x] := by rw [← Array.toList_inj, hargs]
      have et : argTypes = #[t] := by rw [← Array.toList_inj, hts]
      subst ea et
      have hx := hρ x (by simp [Op.operands, Call.operands])
      split at he
      · rename_i kt vt r hu hv
        split at he
        · rename_i es c hes
          refine done_one he ?_
          simp [execOp, resolve, invoke, builtin, Builtin.len_, run_under hu, hx, hv, sh_map, getObj_map hN hes, goInt, sh_int]
        · cases he
      · cases he
    · rename_i x k t t2 hargs hts
      have ea : args = #[x, k] := by rw [← Array.toList_inj, hargs]
      have et : argTypes = #[t, t2] := by rw [← Array.toList_inj, hts]
      subst ea et
      have hx := hρ x (by simp [Op.operands, Call.operands])
      have hk' := hρ k (by simp [Op.operands, Call.operands])
      split at he
      · rename_i kt vt r hu hv
        split at he
        · rename_i es c hes
          split at he
          · rename_i hk
            split at he
            · rename_i i v' hf
              refine done_one he ?_
              have hfr := find_run (E := E) hk hf
              simp only [Option.map_some, Array.toList_map] at hfr
              have hset := setObj_map (P := P) (d := d) hN hes (.map ⟨es.toList.eraseIdx i⟩ c)
              have eo : shO E (.map ⟨es.toList.eraseIdx i⟩ c) = .map ((es.map (shE E)).eraseIdxIfInBounds i) c := by
                simp only [shO]
                congr 1
                rw [← Array.toList_inj]
                simp [map_erase]
              rw [eo] at hset
              simp [execOp, resolve, invoke, builtin, Builtin.delete_, run_under hu, hx, hk', hv, sh_map, getObj_map hN hes, key_run hk, hfr, hset, sh_tuple]
            · rename_i hf
              refine done_one he ?_
              have hfr := find_run (E := E) hk hf
              simp only [Option.map_none, Array.toList_map] at hfr
              have hset := setObj_map (P := P) (d := d) hN hes (.map ⟨es.toList⟩ c)
              have eo : shO E (.map ⟨es.toList⟩ c) = .map (es.map (shE E)) c := rfl
              rw [eo] at hset
              simp [execOp, resolve, invoke, builtin, Builtin.delete_, run_under hu, hx, hk', hv, sh_map, getObj_map hN hes, key_run hk, hfr, hset, sh_tuple]
            · cases he
          · cases he
        · cases he
      · cases he
    · cases he
  | _ => simp [heapR] at he
end
end Go.Rel
