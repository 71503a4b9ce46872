import Derived.Test.Qxb6500374aEvD
set_option linter.unusedSimpArgs false
set_option linter.unusedVariables false
namespace Go.Rel
section
variable {P : Program} {E : Env} {w0 : World}

theorem map_erase {α β : Type} (f : α → β) : ∀ (l : List α) (i : Nat), (l.eraseIdx i).map f = (l.map f).eraseIdx i := by
  intro l
  induction l with
  | nil => intro i; simp
  | cons a l ih =>
    intro i
    cases i with
    | zero => simp
    | succ i => simp [ih]

theorem cand_map (es : List MapEntry) (since : Nat) (seen : List Nat) :
    candR (es.map (shE E)) since seen = (candR es since seen).map (Option.map (shE E)) := by
  have hf : ∀ (p : Nat → Bool), (es.map (shE E)).filter (fun e => p e.born) = (es.filter (fun e => p e.born)).map (shE E) := by
    intro p
    rw [List.filter_map]
    rfl
  unfold candR
  rw [hf (fun b => !seen.contains b && decide (b < since)), hf (fun b => !seen.contains b && !decide (b < since))]
  simp only [List.isEmpty_map, List.map_append, List.map_map]
  congr 1
  split <;> rfl

theorem cand_ne (es : List MapEntry) (since : Nat) (seen : List Nat) : candR es since seen ≠ [] := by
  unfold candR
  split
  · simp
  · rename_i h
    intro h'
    simp only [List.nil_append, List.map_eq_nil_iff, List.append_eq_nil_iff] at h'
    rw [h'.1] at h
    exact h rfl

theorem cand_eq (es : Array MapEntry) (since : Nat) (seen : Array Nat) :
    (if ((es.filter fun e => !seen.contains e.born).filter fun e => decide (e.born < since)).isEmpty = true then #[none] else #[]) ++
      ((es.filter fun e => !seen.contains e.born).filter (fun e => decide (e.born < since)) ++ (es.filter fun e => !seen.contains e.born).filter (fun e => decide (e.born ≥ since))).map some = (candR es.toList since seen.toList).toArray := by
  rw [← Array.toList_inj]
  simp only [Array.toList_append, Array.toList_map, Array.toList_filter, List.filter_filter]
  unfold candR
  have e1 : (es.toList.filter fun a => decide (a.born < since) && !seen.contains a.born) = es.toList.filter fun e => !seen.toList.contains e.born && decide (e.born < since) := by
    apply List.filter_congr
    intro x _
    rw [Bool.and_comm]
    simp
  have e2 : (es.toList.filter fun a => decide (a.born ≥ since) && !seen.contains a.born) = es.toList.filter fun e => !seen.toList.contains e.born && !decide (e.born < since) := by
    apply List.filter_congr
    intro x _
    rw [Bool.and_comm]
    have : decide (x.born ≥ since) = !decide (x.born < since) := by
      by_cases h : x.born < since <;> simp [h]
      omega
    rw [this]
    simp
  have e3 : ((es.filter fun e => !seen.contains e.born).filter fun e => decide (e.born < since)).isEmpty = (es.toList.filter fun e => !seen.toList.contains e.born && decide (e.born < since)).isEmpty := by
    rw [← e1, ← Array.isEmpty_toList]
    simp only [Array.toList_filter, List.filter_filter]
  rw [e1, e2, e3]
  congr 1
  split <;> rfl

theorem choose_mk (h : List Obj) (d n : Nat) (hn : 0 < n) : ∃ k d', k < n ∧ (choose (.mapNext n)).run P (mk E w0 h d) = .ok k (mk E w0 h d') := by
  by_cases h1 : n ≤ 1
  · exact ⟨0, d, hn, by simp [run_choose, Question.forced, h1]⟩
  · refine ⟨(mk E w0 h d).tape (mk E w0 h d).drawn (.mapNext n) % n, d + 1, Nat.mod_lt _ hn, ?_⟩
    rw [run_choose]
    simp only [Question.forced, h1, decide_false, Bool.false_eq_true, if_false, Question.cut]
    rfl

theorem zeros_map (n : Nat) {l : List Value} (hl : l.all scal = true) (hn : 0 < l.length) :
    (Array.range n).map (fun i => (l.toArray)[i % l.toArray.size]!) = (((List.range n).map fun i => l.getD (i % l.length) undef).map (sh E)).toArray := by
  rw [← Array.toList_inj]
  simp only [Array.toList_map, Array.toList_range, List.map_map]
  apply List.map_congr_left
  intro i _
  have hlt : i % l.length < l.length := Nat.mod_lt _ hn
  have hg : l.getD (i % l.length) undef = l[i % l.length] := by simp [List.getD, List.getElem?_eq_getElem hlt]
  have hs : scal l[i % l.length] = true := List.all_eq_true.1 hl _ (List.getElem_mem hlt)
  simp only [Function.comp_apply, hg, sh_scal E hs, List.size_toArray]
  rw [getElem!_pos _ _ (by simpa using hlt)]
  simp

theorem bytes_run (f : Value → ByteArray → Sem (ForInStep ByteArray)) (hf : ∀ n r, f (.int .u8 n) r = pure (ForInStep.yield (r.push (UInt8.ofNat n.toNat)))) :
    ∀ (vs : List Value) (l : List UInt8), bytesOfR vs = some l → ∀ (w : World) (s : ByteArray), (forIn (vs.map (sh E)) s f).run P w = .ok ⟨⟨s.data.toList ++ l⟩⟩ w := by
  intro vs
  induction vs with
  | nil => intro l h w s; simp only [bytesOfR, Option.some.injEq] at h; subst h; simp
  | cons v vs ih =>
    intro l h w s
    unfold bytesOfR at h
    split at h
    · rename_i heq; cases heq
    · rename_i n r heq
      cases heq
      split at h
      · rename_i l' hl'
        cases h
        simp only [List.map_cons, List.forIn_cons, sh_int, hf, Sem.run_bind, Sem.run_pure, Result.andThen_ok]
        rw [ih l' hl' w (s.push (UInt8.ofNat n.toNat))]
        simp [ByteArray.push]
      · cases h
    · cases h

theorem sh_congr {E E' : Env} (hA : ∀ a, shA E' a = shA E a) (hC : ∀ c, unkC E' c = unkC E c) (hF : ∀ c, unkF E' c = unkF E c) (hN : E'.N = E.N) (ha : E'.ap = E.ap ∧ E'.al = E.al ∧ E'.ac = E.ac) : ∀ v, sh E' v = sh E v := by
  intro v
  induction v using sh.induct
  case case5 fn f c h1 h2 =>
    rw [sh_func, sh_func]
    have e1 : f.map (sh E') = f.map (sh E) := by
      apply Array.map_congr_left
      intro x hx
      exact h1 x hx
    have e2 : c.map (sh E') = c.map (sh E) := by
      apply Array.map_congr_left
      intro x hx
      exact h2 x hx
    rw [e1, e2]
  case case6 t v h => rw [sh_iface, sh_iface, h]
  case case7 c h1 =>
    rw [sh_agg, sh_agg]
    have e1 : c.map (sh E') = c.map (sh E) := by
      apply Array.map_congr_left
      intro x hx
      exact h1 x hx
    rw [e1]
  case case8 c h1 =>
    rw [sh_tuple, sh_tuple]
    have e1 : c.map (sh E') = c.map (sh E) := by
      apply Array.map_congr_left
      intro x hx
      exact h1 x hx
    rw [e1]
  all_goals simp only [sh_ptr, sh_slice, sh_map, sh_chan, sh_bool, sh_int, sh_float, sh_complex, sh_string, sh_ptr0, sh_slice0, sh_map0, sh_chan0, sh_nilFunc, sh_nilIface, hA, hC, hF, hN, ha.1, ha.2.1, ha.2.2]

theorem read_big (word sw bn ir : Nat) (f : Ieee.Format) (h1 : f.signWeight = sw) (h2 : f.binade = bn) (h3 : f.infRung = ir) (hb : bn ≤ ir) (hlt : ir < word % sw) : ∃ s p, f.read word = .nan s p := by
  unfold Ieee.Format.read
  simp only [h1, h2, h3]
  have a1 : ¬ word % sw < bn := by omega
  have a2 : ¬ word % sw < ir := by omega
  have a3 : ¬ word % sw = ir := by omega
  rw [if_neg a1, if_neg a2, if_neg a3]
  exact ⟨_, _, rfl⟩

theorem rung_big (b r M I : Nat) (hI : I + 1 + r < M) : (b * M + I + 1 + r) % M = I + 1 + r := by
  rw [show b * M + I + 1 + r = (I + 1 + r) + M * b by rw [Nat.mul_comm b M]; omega, Nat.add_mul_mod_self_left]
  exact Nat.mod_eq_of_lt hI

theorem read_nan (t : Nat) : ∃ s p, Ieee.double.read ((t % 2) * 2 ^ 63 + 0x7ff0000000000000 + 1 + (t / 2) % (2 ^ 52 - 1)) = .nan s p := by
  have hr : (t / 2) % (2 ^ 52 - 1) < 2 ^ 52 - 1 := Nat.mod_lt _ (by decide)
  refine read_big _ (2 ^ 63) (2 ^ 52) 0x7ff0000000000000 _ (by decide) (by decide) (by decide) (by decide) ?_
  rw [rung_big _ _ _ _ (by omega)]
  omega
theorem order_nan {x : Nat} (h : ∃ s p, Ieee.double.read x = .nan s p) (y : Nat) : FloatKind.f64.format.order x y = none ∧ FloatKind.f64.format.order y x = none := by
  obtain ⟨s, p, h⟩ := h
  simp only [FloatKind.format, Ieee.Format.order, h]
  constructor
  · rfl
  · cases Ieee.double.read y <;> rfl

theorem sh_ob (f : Nat → Obj) (v : Value) : sh { E with ob := f } v = sh E v := sh_congr (E := E) (E' := { E with ob := f }) (fun _ => rfl) (fun _ => rfl) (fun _ => rfl) rfl ⟨rfl, rfl, rfl⟩ v

theorem shE_ob (f : Nat → Obj) (e : MapEntry) : shE { E with ob := f } e = shE E e := by simp [shE, sh_ob]

theorem shO_ob (f : Nat → Obj) (i : Nat) (hf : f i = E.ob i) (o : Obj) : shO { E with ob := f } i o = shO E i o := by
  have e1 : sh { E with ob := f } = sh E := funext (sh_ob f)
  have e2 : shE { E with ob := f } = shE E := funext (shE_ob f)
  cases o <;> simp [shO, e1, e2, hf]

/-- The true object at b is set to x, which the new relative object stands for. -/
theorem mk_setOb (hN : E.N = w0.heap.size) (h : List Obj) (d b : Nat) (o x : Obj) (hx : shO { E with ob := fun i => if i = b then x else E.ob i } b o = x) :
    { mk E w0 h d with heap := (mk E w0 h d).heap.setIfInBounds (E.N + b) x } = mk { E with ob := fun i => if i = b then x else E.ob i } w0 (h.set b o) d := by
  simp only [mk]
  congr 1
  rw [← Array.toList_inj]
  simp only [Array.toList_setIfInBounds, Array.toList_append]
  rw [List.set_append_right _ _ (by simp [hN]), mapIdx_set', hx]
  congr 1
  apply List.ext_getElem?
  intro i
  simp only [List.getElem?_set, List.getElem?_mapIdx, List.length_mapIdx]
  by_cases hi : b = i
  · subst hi; simp [hN]
  · rw [if_neg (by simp [hN]; omega), if_neg hi]
    cases h[i]? with
    | none => rfl
    | some o' => simp [shO_ob (E := E) (fun i => if i = b then x else E.ob i) i (by simp; omega) o']

theorem mk_pushOb (h : List Obj) (d : Nat) (o x : Obj) (hx : shO { E with ob := fun i => if i = h.length then x else E.ob i } h.length o = x) :
    { mk E w0 h d with heap := (mk E w0 h d).heap.push x } = mk { E with ob := fun i => if i = h.length then x else E.ob i } w0 (newR h o) d := by
  unfold newR
  rw [← mk_push]
  simp only [mk, hx]
  congr 2
  congr 1
  congr 1
  apply List.ext_getElem?
  intro i
  simp only [List.getElem?_mapIdx]
  cases hi : h[i]? with
  | none => rfl
  | some o' =>
    have : i < h.length := (List.getElem?_eq_some_iff.1 hi).1
    simp [shO_ob (E := E) (fun i => if i = h.length then x else E.ob i) i (by simp; omega) o']

theorem mem_isort1 (n y : Nat) : ∀ l : List Nat, (isort1 n l).contains y = (y == n || l.contains y) := by
  intro l
  induction l with
  | nil => simp only [isort1, List.contains_cons]
  | cons m l ih =>
    simp only [isort1]
    split
    · simp only [List.contains_cons]
    · simp only [List.contains_cons, ih]
      cases y == m <;> cases y == n <;> simp

theorem mem_isort (y : Nat) : ∀ l : List Nat, (isort l).contains y = l.contains y := by
  intro l
  induction l with
  | nil => rfl
  | cons n l ih => simp only [isort, mem_isort1, ih, List.contains_cons]

theorem cand_congr (es : List MapEntry) (since : Nat) {l l' : List Nat} (h : ∀ x, l.contains x = l'.contains x) : candR es since l = candR es since l' := by
  unfold candR
  simp only [h]

theorem getObj_iter (hN : E.N = w0.heap.size) {h : List Obj} {d b s st : Nat} {m : Option Nat} {seen arr : Array Nat} (hb : h[b]? = some (.mapIter m s seen st)) (ho : E.ob b = .mapIter (m.map (E.N + ·)) s arr st) :
    (getObj (E.N + b)).run P (mk E w0 h d) = .ok (.mapIter (m.map (E.N + ·)) s arr st) (mk E w0 h d) := by
  simp [getObj, Sem.run, mk_iter hN hb, ho]

def isIter : Obj → Bool
  | .mapIter _ _ _ _ => true
  | _ => false

theorem ob_fz (h : ObOK E) (b : Nat) (x : Obj) (hx : isIter x = true) : ObOK { E with ob := fun i => if i = b then x else E.ob i } := by
  intro i c t fr hg
  simp only at hg
  split at hg
  · rw [hg] at hx; cases hx
  · exact h i c t fr hg

theorem wr_ok {A : Option Addr × Nat × Nat} {h h' : List Obj} (hE : EnvOK A w0 E h) {a : Addr} {vs : List Value} (hw : wr h a vs = some h') : EnvOK A w0 E h' := by
  unfold wr at hw
  split at hw
  · split at hw
    · cases hw; exact hE.set rfl
    · cases hw
  · split at hw
    · cases hw; exact hE.set rfl
    · cases hw
  · cases hw

theorem store_ok {A : Option Addr × Nat × Nat} {h h' : List Obj} (hE : EnvOK A w0 E h) {t : TypeId} {a : Addr} {v : Value} (hw : storeR P h t a v = some h') : EnvOK A w0 E h' := by
  unfold storeR at hw
  split at hw
  · split at hw
    · exact wr_ok hE hw
    · cases hw
  · cases hw

theorem upd_run {A : Option Addr × Nat × Nat} {s : St} (hE : EnvOK A w0 E s.hp) {ev : Operand → Value} {o : Oper} {t : TypeId} {m k v : Value} {outs : Outs} (he : updR P s t m k v = some outs) (d : Nat)
    (ho : ∀ w, (execOp ev o).run P w = ((Instr.mapUpdate t (sh E m) (sh E k) (sh E v)).run P w).andThen fun _ w' => .ok .skip w') : Done P A w0 E ev o s d outs := by
  unfold updR at he
  split at he
  · rename_i kt et r hu
    split at he
    · rename_i es c hes
      split at he
      · rename_i hk
        split at he
        · rename_i i v' hf
          split at he
          · rename_i e hei
            split at he
            · rename_i hbit
              refine done_skip he (hE.set rfl) ?_
              have hfr := find_run (E := E) hE.nan hk hf
              simp only [Option.map_some] at hfr
              have hei' : es[i]? = some e := by simpa using hei
              have hstay : ∀ w, (Instr.keyThatStays ((((es.map (shE E))[i]?).map (·.key)).getD (sh E k)) (sh E k)).run P w = .ok (sh E k) w := by
                intro w
                have hs : Instr.sameBits 10000 (sh E e.key) (sh E k) = true := by
                  unfold sameBit at hbit
                  split at hbit
                  · rename_i k1 a k2 b e1
                    simp only [Bool.and_eq_true, decide_eq_true_eq] at hbit
                    simp [e1, sh_int, Instr.sameBits, hbit.1, hbit.2]
                  · rename_i a b e1
                    simp only [Bool.and_eq_true, decide_eq_true_eq] at hbit
                    simp [e1, sh_float, Instr.sameBits, hbit.2]
                  · cases hbit
                simp [hei', shE, Instr.keyThatStays, hs]
              have hset := setObj_map (P := P) (d := d) hE.hN hes (.map ⟨modE es.toList i k v⟩ c)
              have eo : shO E r (.map ⟨modE es.toList i k v⟩ c) = .map ((es.map (shE E)).modify i fun e => { e with key := sh E k, val := sh E v }) c := by
                simp only [shO]
                congr 1
                apply Array.ext_getElem?
                intro j
                rw [Array.getElem?_modify]
                simp only [modE, hei, Array.getElem?_map, List.getElem?_toArray, List.getElem?_set]
                by_cases hj : i = j
                · subst hj
                  obtain ⟨hlt, hge⟩ := Array.getElem?_eq_some_iff.1 hei'
                  simp [hei', shE, hlt, hge]
                · simp [hj]
              rw [eo] at hset
              rw [ho]
              simp only [Instr.mapUpdate, Sem.run_bind, run_under hu, Result.andThen_ok, sh_map, getObj_map hE.hN hes, Sem.run_pure, key_run hk, hfr, hstay, hset]
            · cases he
          · cases he
        · rename_i hf
          refine done_skip he (hE.set rfl) ?_
          have hfr := find_run (E := E) hE.nan hk hf
          simp only [Option.map_none] at hfr
          have hset := setObj_map (P := P) (d := d) hE.hN hes (.map ⟨es.toList ++ [⟨k, v, c⟩]⟩ (c + 1))
          have eo : shO E r (.map ⟨es.toList ++ [⟨k, v, c⟩]⟩ (c + 1)) = .map ((es.map (shE E)).push ⟨sh E k, sh E v, c⟩) (c + 1) := by
            simp only [shO]
            congr 1
            rw [← Array.toList_inj]
            simp [shE]
          rw [eo] at hset
          rw [ho]
          simp only [Instr.mapUpdate, Sem.run_bind, run_under hu, Result.andThen_ok, sh_map, getObj_map hE.hN hes, Sem.run_pure, key_run hk, hfr, hset]
        · cases he
      · cases he
    · cases he
  · cases he

theorem app_room {t t2 ty e e2 : TypeId} {i : TypeInfo} (hu : tyU P t = some (.slice e)) (hu2 : tyU P t2 = some (.slice e2)) (hi : tyI P e = some i) (hsz : i.size = 1) {base : Option Addr} {sLen sCap n : Nat} {Y : Value} {w w1 w2 : World} {new : Array Value}
    (hl : ∀ w, (Builtin.lenOf Y).run P w = .ok n w) (hf : (Builtin.firstCells 1 n Y).run P w = .ok new w1) (hle : sLen + n ≤ sCap)
    (hst : ((match base with | some a => storeCells (a.add sLen) new.toList | none => pure ()) : Sem Unit).run P w1 = .ok () w2) :
    (Builtin.append_ #[t, t2] ty #[.slice base sLen sCap, Y]).run P w = .ok (.slice base (sLen + n) sCap) w2 := by
  have h1 : ∀ w, (sizeOf e).run P w = .ok 1 w := fun w => by rw [← hsz]; exact run_size (by simp [tySz, hi]) w
  simp [Builtin.append_, run_under hu, run_under hu2, h1, hl, hle, hf]
  cases base with
  | none => simp at hst; simp [hst]
  | some a => simp at hst; simp [hst]
  
theorem more_run (hN : E.N = w0.heap.size) {h : List Obj} {d : Nat} {y : Value} {vs : List Value} (hm : moreR h y = some vs) :
    (∀ w, (Builtin.lenOf (sh E y)).run P w = .ok vs.length w) ∧ ∀ d, (Builtin.firstCells 1 vs.length (sh E y)).run P (mk E w0 h d) = .ok ((vs.map (sh E)).toArray) (mk E w0 h d) := by
  unfold moreR at hm
  split at hm
  · rename_i a n c
    have hl := (rd_cell (E := E) (w0 := w0) (d := d) hN hm).2.1
    refine ⟨fun w => by simp [sh_slice, Builtin.lenOf, hl], fun d => ?_⟩
    simp only [sh_slice, Builtin.firstCells, Nat.mul_one]
    rw [hl]
    exact rd_run hN hm
  · cases hm
    exact ⟨fun w => by simp [sh_slice0, Builtin.lenOf], fun d => by simp [sh_slice0, Builtin.firstCells]⟩
  · cases hm

theorem app_grow {t t2 ty e e2 : TypeId} {i : TypeInfo} (hu : tyU P t = some (.slice e)) (hu2 : tyU P t2 = some (.slice e2)) (hi : tyI P e = some i) (hsz : i.size = 1) (hby : i.bytes = 8) (hz : i.zero = some (.int .i64 0))
    {base : Option Addr} {sLen sCap n : Nat} {Y : Value} {w : World} {old new : Array Value}
    (hl : ∀ w, (Builtin.lenOf Y).run P w = .ok n w) (hle : ¬ sLen + n ≤ sCap) (hsmall : sLen + n < 200)
    (hf1 : (Builtin.firstCells 1 sLen (.slice base sLen sCap)).run P { w with drawn := w.drawn + 1 } = .ok old { w with drawn := w.drawn + 1 })
    (hf2 : (Builtin.firstCells 1 n Y).run P { w with drawn := w.drawn + 1 } = .ok new { w with drawn := w.drawn + 1 }) :
    ∃ newCap, (Builtin.append_ #[t, t2] ty #[.slice base sLen sCap, Y]).run P w =
      ((newRow e (old ++ new ++ Array.replicate (newCap - (sLen + n)) (.int .i64 0))).run P { w with drawn := w.drawn + 1 }).andThen fun a w' => .ok (.slice (some a) (sLen + n) newCap) w' := by
  have h1 : ∀ w, (sizeOf e).run P w = .ok 1 w := fun w => by rw [← hsz]; exact run_size (by simp [tySz, hi]) w
  have h2 : ∀ w, (zeroValue e).run P w = .ok (.int .i64 0) w := fun w => by simp [zeroValue, run_info hi, hz]
  have hcap : Builtin.nextslicecap (sLen + n) sCap * 8 ≤ 2 ^ 48 := by
    unfold Builtin.nextslicecap
    split
    · omega
    · split
      · omega
      · omega
  have hz2 : ∀ m, Builtin.zeroCells #[Value.int .i64 0] m = Array.replicate m (.int .i64 0) := by
    intro m
    unfold Builtin.zeroCells
    apply Array.ext
    · simp
    · intro j h1 h2
      simp [Nat.mod_one]
  refine ⟨Question.cut (.appendCap (sLen + n) sCap e) (w.tape w.drawn (.appendCap (sLen + n) sCap e)), ?_⟩
  have hmax : ¬ ((sLen + n : Nat) : Int) > IntKind.i64.max := by
    simp only [IntKind.max, IntKind.signed, IntKind.bits]
    omega
  have hf1' : (Builtin.firstCells 1 sLen (.slice base sLen sCap)).run P w.drew = .ok old w.drew := hf1
  have hf2' : (Builtin.firstCells 1 n Y).run P w.drew = .ok new w.drew := hf2
  have hcells : (Value.int IntKind.i64 0).cells = #[.int .i64 0] := rfl
  simp [Builtin.append_, run_under hu, run_under hu2, h1, h2, hl, hle, run_info hi, hby, Nat.not_lt.2 hcap, Question.forced, hf1', hf2', hcells, hz2]

theorem grow_run {A : Option Addr × Nat × Nat} {s : St} (hE : EnvOK A w0 E s.hp) {ev : Operand → Value} {o : Oper} {t t2 ty e e2 : TypeId} {i : TypeInfo} {b : Option Addr} {len cap : Nat} {y : Value} {old vs : List Value} {outs : Outs}
    (hu : tyU P t = some (.slice e)) (hu2 : tyU P t2 = some (.slice e2)) (hi : tyI P e = some i) (hsz : i.size = 1) (hby : i.bytes = 8) (hz : i.zero = some (.int .i64 0))
    (hold : moreR s.hp (.slice b len cap) = some old) (hvs : moreR s.hp y = some vs) (hlen : old.length = len) (hsmall : len + vs.length < 200) (hle : ¬ len + vs.length ≤ unkC E cap) (he : growR s e old vs = some outs) (d : Nat)
    (ho : ∀ w, (execOp ev o).run P w = ((Builtin.append_ #[t, t2] ty #[sh E (.slice b len cap), sh E y]).run P w).andThen fun v w' => .ok (.value v) w') : Done P A w0 E ev o s d outs := by
  unfold growR at he
  split at he
  · rename_i hok
    simp only [Bool.and_eq_true] at hok
    cases he
    obtain ⟨hl1, hf1⟩ := more_run (P := P) (E := E) (w0 := w0) (d := d) hE.hN hold
    obtain ⟨hl2, hf2⟩ := more_run (P := P) (E := E) (w0 := w0) (d := d) hE.hN hvs
    have hshape : ∃ bb, sh E (.slice b len cap) = .slice bb len (unkC E cap) := by
      cases b with
      | none => exact ⟨none, by rw [sh_slice0]⟩
      | some a => exact ⟨some (shA E a), by rw [sh_slice]⟩
    obtain ⟨bb, hbb⟩ := hshape
    rw [hlen] at hf1
    obtain ⟨newCap, hrun⟩ := app_grow (ty := ty) (base := bb) (sCap := unkC E cap) hu hu2 hi hsz hby hz hl2 hle hsmall (w := mk E w0 s.hp d) (by rw [← hbb]; exact hf1 (d + 1)) (hf2 (d + 1))
    have hmk := okSt_mk (w0 := w0) hok.1.1 (E := E) (E' := { E with cap := fun j => if j = s.u then newCap else E.cap j }) rfl rfl (fun j hj => ⟨rfl, by simp; omega⟩) rfl (d + 1)
    have hshv : ∀ v ∈ old ++ vs, sh { E with cap := fun j => if j = s.u then newCap else E.cap j } v = sh E v := by
      intro v hv
      refine okV_sh (E := E) (E' := { E with cap := fun j => if j = s.u then newCap else E.cap j }) rfl rfl (fun j hj => ⟨rfl, if_neg (Nat.ne_of_lt hj)⟩) 9 v (u := s.u) ?_
      rcases List.mem_append.1 hv with hv | hv
      · exact List.all_eq_true.1 hok.2 v hv
      · exact List.all_eq_true.1 hok.1.2 v hv
    refine ⟨_, _, s.u + 1, d + 1, _, { E with cap := fun j => if j = s.u then newCap else E.cap j }, List.mem_singleton.2 rfl, ?_, .inl rfl, ?_, ?_, hmk.2⟩
    · rw [ho, hbb, hrun]
      have hp := mk_push { E with cap := fun j => if j = s.u then newCap else E.cap j } (w0 := w0) s.hp (d + 1) (.chan s.u ⟨old ++ vs⟩ false e 0 false)
      rw [hmk.1] at hp
      unfold newR
      rw [← hp]
      have hw : { mk E w0 s.hp d with drawn := (mk E w0 s.hp d).drawn + 1 } = mk E w0 s.hp (d + 1) := rfl
      rw [hw]
      simp only [newRow, Sem.run_bind, run_newObj, Result.andThen_ok, Sem.run_pure, mk_size E hE.hN, sh_slice, shO]
      have hun : unkC { E with cap := fun j => if j = s.u then newCap else E.cap j } (18446744073709551616 + s.u) = newCap := by
        unfold unkC
        rw [if_neg (by omega)]
        simp
      rw [hun, hlen]
      have hrow : (List.map (sh E) old).toArray ++ (List.map (sh E) vs).toArray ++ Array.replicate (newCap - (len + vs.length)) (Value.int .i64 0) =
          Array.map (sh { E with cap := fun j => if j = s.u then newCap else E.cap j }) ⟨old ++ vs⟩ ++ Array.replicate ((if s.u = s.u then newCap else E.cap s.u) - (⟨old ++ vs⟩ : Array Value).size) (Value.int .i64 0) := by
        have e1 : Array.map (sh { E with cap := fun j => if j = s.u then newCap else E.cap j }) ⟨old ++ vs⟩ = (List.map (sh E) old).toArray ++ (List.map (sh E) vs).toArray := by
          rw [← Array.toList_inj]
          simp only [Array.toList_map, Array.toList_append]
          rw [← List.map_append]
          exact List.map_congr_left hshv
        rw [e1]
        simp [hlen]
      rw [hrow]
      simp [shA]
    · refine ⟨hE.hN, hE.arg, hE.nan, ?_, hE.fz⟩
      exact (ItOK.new (E := E) hE.it (o := .chan s.u ⟨old ++ vs⟩ false e 0 false) rfl)
    · refine ⟨Nat.le_succ _, fun j hj => ⟨rfl, ?_⟩⟩
      simp only
      rw [if_neg (by omega)]
  · cases he

theorem place_run {A : Option Addr × Nat × Nat} {s : St} (hE : EnvOK A w0 E s.hp) {ev : Operand → Value} {o : Oper} {t t2 ty e e2 : TypeId} {i : TypeInfo} {a : Addr} {len cap : Nat} {y : Value} {vs : List Value} {outs : Outs}
    (hu : tyU P t = some (.slice e)) (hu2 : tyU P t2 = some (.slice e2)) (hi : tyI P e = some i) (hsz : i.size = 1)
    (hvs : moreR s.hp y = some vs) (hle : len + vs.length ≤ unkC E cap) (he : inPlaceR s a len cap vs = some outs) (d : Nat)
    (ho : ∀ w, (execOp ev o).run P w = ((Builtin.append_ #[t, t2] ty #[sh E (.slice (some a) len cap), sh E y]).run P w).andThen fun v w' => .ok (.value v) w') : Done P A w0 E ev o s d outs := by
  obtain ⟨hl2, hf2⟩ := more_run (P := P) (E := E) (w0 := w0) (d := d) hE.hN hvs
  unfold inPlaceR at he
  split at he
  · rename_i c t' fr hs hb
    split at he
    · rename_i hcap
      split at he
      · rename_i h' hw
        refine done_one he (wr_ok hE hw) ?_
        have hst : (storeCells ((shA E a).add len) ((vs.map (sh E)).toArray).toList).run P (mk E w0 s.hp d) = .ok () (mk E w0 h' d) := by
          rw [add_sh a len hs]
          exact wr_run hE.hN hw
        rw [ho, sh_slice, app_room (base := some (shA E a)) hu hu2 hi hsz hl2 (hf2 d) hle hst]
        simp [sh_slice]
      · cases he
    · cases he
  · rename_i j c x0 t' x1 x2 hs hb
    split at he
    · rename_i hc
      obtain ⟨hoff, hcap, hlen, hflat⟩ := hc
      refine done_one he (hE.set rfl) ?_
      have hC : unkC E cap = E.cap j := by
        rw [hcap]; unfold unkC; rw [if_neg (by omega)]; simp
      rw [hC] at hle
      have hst : (storeCells ((shA E a).add len) ((vs.map (sh E)).toArray).toList).run P (mk E w0 s.hp d) = .ok () (mk E w0 (s.hp.set a.block (.chan j ⟨c.toList ++ vs⟩ x0 t' x1 x2)) d) := by
        have e1 : (shA E a).add len = ⟨E.N + a.block, len, none⟩ := by
          rw [add_sh a len hs]; simp [shA, addrAdd, hoff]
        have h1 := run_storeCells_at P (E.N + a.block) len t' (vs.map (sh E)) 0 (c.map (sh E) ++ Array.replicate (E.cap j - c.size) (.int .i64 0)) (mk E w0 s.hp d) (mk_chan hE.hN hb) (by simp at hlen ⊢; omega)
          (by
            intro v hv
            simp only [List.mem_map] at hv
            obtain ⟨u, hu, rfl⟩ := hv
            rw [flat_one, flat_sh]
            exact List.all_eq_true.1 hflat u hu)
        rw [e1]
        rw [h1]
        congr 1
        refine mk_setRow hE.hN (mk_chan hE.hN hb) _ ?_
        simp only [shO]
        congr 1
        rw [← Array.toList_inj]
        have hl0 : c.toList.length = c.size := by simp
        simp only [Array.toList_append, Array.toList_map, Array.toList_replicate, Nat.add_zero, List.length_map, List.map_append, List.take_append, List.drop_append]
        simp only [List.size_toArray, List.length_append]
        rw [hlen, List.take_of_length_le (by simp), List.drop_of_length_le (by simp)]
        simp only [Nat.sub_self, List.take_zero, List.append_nil, List.nil_append, List.drop_replicate]
        rw [hl0]
        simp
        omega
      rw [ho, sh_slice, app_room (base := some (shA E a)) hu hu2 hi hsz hl2 (hf2 d) (by rw [hC]; exact hle) hst]
      simp [sh_slice]
    · cases he
  · cases he

theorem append_run {A : Option Addr × Nat × Nat} {s : St} (hE : EnvOK A w0 E s.hp) {ev : Operand → Value} {o : Oper} {t t2 ty e2 : TypeId} {x y : Value} {outs : Outs} (hu2 : tyU P t2 = some (.slice e2)) (he : appendR P s t x y = some outs) (d : Nat)
    (ho : ∀ w, (execOp ev o).run P w = ((Builtin.append_ #[t, t2] ty #[sh E x, sh E y]).run P w).andThen fun v w' => .ok (.value v) w') : Done P A w0 E ev o s d outs := by
  unfold appendR at he
  split at he
  · rename_i e b len cap hu
    split at he
    · rename_i i old vs hi hold hvs
      split at he
      · rename_i hc
        obtain ⟨hsz, hby, hlen, hsmall, hz0⟩ := hc
        have hz : i.zero = some (.int .i64 0) := by
          unfold zeroI at hz0
          split at hz0
          · rename_i n h
            simp only [decide_eq_true_eq] at hz0
            rw [h, hz0]
          · cases hz0
        split at he
        · rename_i hcap
          have hC := unkC_lt E hcap
          split at he
          · rename_i hroom
            split at he
            · rename_i a
              exact place_run hE hu hu2 hi hsz hvs (by rw [hC]; exact hroom) he d ho
            · split at he
              · rename_i hemp
                have hv0 : vs = [] := by simpa using hemp
                subst hv0
                refine done_one he hE ?_
                obtain ⟨hl2, hf2⟩ := more_run (P := P) (E := E) (w0 := w0) (d := d) hE.hN hvs
                rw [ho, sh_slice0, app_room (base := none) (w2 := mk E w0 s.hp d) hu hu2 hi hsz hl2 (hf2 d) (by rw [hC]; exact hroom) (by simp)]
                simp [sh_slice0]
              · cases he
          · rename_i hroom
            exact grow_run hE hu hu2 hi hsz hby hz hold hvs hlen hsmall (by rw [hC]; exact hroom) he d ho
        · split at he
          · rename_i a
            split at he
            · rename_i l m hl hm
              cases he
              by_cases hroom : len + vs.length ≤ unkC E cap
              · obtain ⟨v, h', u', d', nx, E', h1, h2⟩ := place_run hE hu hu2 hi hsz hvs hroom hl d ho
                exact ⟨v, h', u', d', nx, E', List.mem_append_left _ h1, h2⟩
              · obtain ⟨v, h', u', d', nx, E', h1, h2⟩ := grow_run hE hu hu2 hi hsz hby hz hold hvs hlen hsmall hroom hm d ho
                exact ⟨v, h', u', d', nx, E', List.mem_append_right _ h1, h2⟩
            · cases he
          · cases he
      · cases he
    · cases he
  · cases he

theorem heap_run {A : Option Addr × Nat × Nat} {s : St} (hE : EnvOK A w0 E s.hp) {ρ ev : Operand → Value} {o : Oper} {outs : Outs} (hρ : ∀ x ∈ o.op.operands, ev x = sh E (ρ x)) (he : heapR P ρ s o = some outs) (d : Nat) :
    Done P A w0 E ev o s d outs := by
  have hN := hE.hN
  obtain ⟨dst, op, type, pos, after, guard⟩ := o
  cases op with
  | alloc t =>
    simp only [heapR] at he
    split at he
    · rename_i z hz
      refine done_one he (hE.new rfl) ?_
      have := new_run (P := P) hN s.hp d (cellsL z) t
      rw [map_scal E (zero_scal hz)] at this
      simp [execOp, Instr.alloc, run_zero hz, newVar, cells_eq, this, sh_ptr]
    · cases he
  | box t x =>
    simp only [heapR] at he
    refine done_one he (hE.new rfl) ?_
    have := new_run (P := P) hN s.hp d (cellsL (ρ x)) t
    simp [execOp, Instr.box, newVar, cells_eq, hρ x (by simp [Op.operands]), cellsL_sh, this, sh_ptr]
  | buildSlice t len parts =>
    simp only [heapR] at he
    split at he
    · rename_i e hu
      split at he
      · rename_i z zv hz hzv
        split at he
        · rename_i hc
          split at he
          · rename_i cs hcs
            refine done_one he (hE.new rfl) ?_
            have hpos : 0 < (cellsL zv).length := hc.2.2
            have hf := fill_of (E := E) _ _ _ _ hcs
            have ep : (parts.map fun (x : Nat × Operand) => (x.1, ev x.2)).toList = ((parts.toList.map fun p => (p.1, ρ p.2)).map fun p => (p.1, sh E p.2)) := by
              simp only [Array.toList_map, List.map_map]
              apply List.map_congr_left
              intro p hp
              have := hρ p.2 (by simp only [Op.operands]; simp; exact ⟨p.1, by simpa using hp⟩)
              simp [this]
            have hn := new_run (P := P) hN s.hp d cs e
            rw [← zeros_map (E := E) (len * z) (zero_scal hzv) hpos] at hf
            simp only [execOp, Instr.buildSlice, Sem.run_bind, run_under hu, Result.andThen_ok, run_size hz]
            rw [if_neg (by omega)]
            rw [if_neg (by omega)]
            simp only [Sem.run_bind, run_zero hzv, Result.andThen_ok, Sem.run_pure, cells_eq, ep]
            rw [show ({ toList := cellsL zv } : Array Value) = (cellsL zv).toArray from rfl, hf]
            have h64 : len < 18446744073709551616 := by
              have : len ≤ len * z := Nat.le_mul_of_pos_right _ (by rcases Nat.eq_zero_or_pos z with h0 | h0; · subst h0; omega
                                                                    · exact h0)
              omega
            simp only [Sem.run_bind, hn, Result.andThen_ok, Sem.run_pure, sh_slice, unkC_lt E h64]
          · cases he
        · cases he
      · cases he
    · cases he
  | load t x =>
    simp only [heapR] at he
    split at he
    · rename_i a ha
      split at he
      · rename_i v hv
        refine done_one he hE ?_
        simp [execOp, Instr.loadAt, Instr.sureAddr, hρ x (by simp [Op.operands]), ha, sh_ptr, load_run hN hv]
      · cases he
    · cases he
  | store t x y =>
    simp only [heapR] at he
    split at he
    · rename_i a ha
      split at he
      · rename_i h' hv
        refine done_skip he (store_ok hE hv) ?_
        simp [execOp, Instr.storeAt, Instr.sureAddr, hρ x (by simp [Op.operands]), hρ y (by simp [Op.operands]), ha, sh_ptr, store_run hN hv]
      · cases he
    · cases he
  | convert src dst x =>
    simp only [heapR] at he
    split at he
    · rename_i e a n c hs hd hx
      split at he
      · rename_i hu8
        have hb : tyU P e = some (.int .u8) := by
          unfold isU8T at hu8
          split at hu8
          · rename_i h; exact h
          · cases hu8
        split at he
        · rename_i vs hvs
          split at he
          · rename_i l hl
            refine done_one he hE ?_
            simp only [execOp, convert, Sem.run_bind, run_under hs, run_under hd, Result.andThen_ok, hρ x (by simp [Op.operands]), hx, sh_slice, run_under hb, Conv.bytesToString, rd_run hN hvs]
            rw [← Array.forIn_toList]
            rw [bytes_run (P := P) (E := E) _ (fun _ _ => rfl) vs l hl (mk E w0 s.hp d) ByteArray.empty]
            simp [sh_string]
          · cases he
        · cases he
      · cases he
    · cases he
  | makeMap t r =>
    cases r with
    | some y => simp [heapR] at he
    | none =>
      simp only [heapR] at he
      refine done_one he (hE.new rfl) ?_
      simp [execOp, Instr.makeMap, sh_map, mk_size E hN]
      have := mk_push E (w0 := w0) s.hp d (.map #[] 0)
      simpa [shO, newR] using this
  | lookup t m k ok =>
    simp only [heapR] at he
    split at he
    · rename_i kt et r hu hm
      split at he
      · rename_i es c z hes hz
        split at he
        · rename_i hk
          split at he
          · rename_i i v hf
            refine done_one he hE ?_
            have := find_run (E := E) hE.nan hk hf
            simp only [Option.map_some] at this
            simp only [execOp, Instr.lookup, Sem.run_bind, run_under hu, Result.andThen_ok, hρ m (by simp [Op.operands]), hρ k (by simp [Op.operands]), hm, sh_map, getObj_map hN hes, Sem.run_pure, key_run hk, this]
            cases ok <;> simp [sh_tuple, sh_bool]
          · rename_i hf
            refine done_one he hE ?_
            have := find_run (E := E) hE.nan hk hf
            simp only [Option.map_none] at this
            simp only [execOp, Instr.lookup, Sem.run_bind, run_under hu, Result.andThen_ok, hρ m (by simp [Op.operands]), hρ k (by simp [Op.operands]), hm, sh_map, getObj_map hN hes, Sem.run_pure, key_run hk, this, run_zero hz]
            cases ok <;> simp [sh_tuple, sh_bool, sh_cells_scal E (zero_scal hz)]
          · cases he
        · cases he
      · cases he
    · cases he
  | mapUpdate t m k v =>
    simp only [heapR] at he
    refine upd_run hE he d fun w => ?_
    simp only [execOp, Sem.run_bind, hρ m (by simp [Op.operands]), hρ k (by simp [Op.operands]), hρ v (by simp [Op.operands])]
    rfl
  | insert t m k v =>
    simp only [heapR] at he
    refine upd_run hE he d fun w => ?_
    simp only [execOp, Sem.run_bind, hρ m (by simp [Op.operands]), hρ k (by simp [Op.operands]), hρ v (by simp [Op.operands])]
    rfl
  | binOp op t x y yt =>
    simp only [heapR] at he
    split at he
    · rename_i a b hx hy
      split at he
      · rename_i hc
        obtain ⟨ha, hb, hdiv, hok⟩ := hc
        cases he
        have hdiv' : FloatKind.f64.format.div a b = none := by simpa using hdiv
        refine ⟨_, s.hp, s.u + 1, d + 1, _, { E with nan := fun i => if i = s.u then Question.cut (.nanBits .f64 a b) ((mk E w0 s.hp d).tape (mk E w0 s.hp d).drawn (.nanBits .f64 a b)) else E.nan i }, List.mem_singleton.2 rfl, ?_, .inl rfl, ?_, ?_, ?_⟩
        · have hmk := (okSt_mk (w0 := w0) hok (E := E) (E' := { E with nan := fun i => if i = s.u then Question.cut (.nanBits .f64 a b) ((mk E w0 s.hp d).tape (mk E w0 s.hp d).drawn (.nanBits .f64 a b)) else E.nan i }) rfl rfl (fun i hi => ⟨by simp; omega, rfl⟩) rfl (d + 1)).1
          rw [hmk]
          simp only [execOp, hρ x (by simp [Op.operands]), hρ y (by simp [Op.operands]), hx, hy, sh_float, Sem.run_bind]
          rw [guard_other (by simp) (by simp)]
          simp only [Result.andThen_ok, binOp, Op.floatArith, unkF_lt E ha, unkF_lt E hb]
          have hun : unkF { E with nan := fun i => if i = s.u then Question.cut (.nanBits .f64 a b) ((mk E w0 s.hp d).tape (mk E w0 s.hp d).drawn (.nanBits .f64 a b)) else E.nan i } (18446744073709551616 + s.u) =
              Question.cut (.nanBits .f64 a b) ((mk E w0 s.hp d).tape (mk E w0 s.hp d).drawn (.nanBits .f64 a b)) := by
            unfold unkF
            rw [if_neg (by omega)]
            simp
          rw [hun]
          simp only [ne_eq, not_true_eq_false, if_false, Sem.run_bind, Sem.run_pure, Result.andThen_ok, hdiv', run_choose, Question.forced, Bool.false_eq_true]
          rfl
        · refine ⟨hE.hN, hE.arg, ?_, hE.it, hE.fz⟩
          intro i y
          simp only
          split
          · exact order_nan (read_nan _) y
          · exact hE.nan i y
        · refine ⟨Nat.le_succ _, fun i hi => ⟨?_, rfl⟩⟩
          simp only
          rw [if_neg (by omega)]
        · exact (okSt_mk (w0 := w0) hok (E := E) (E' := { E with nan := fun i => if i = s.u then Question.cut (.nanBits .f64 a b) ((mk E w0 s.hp d).tape (mk E w0 s.hp d).drawn (.nanBits .f64 a b)) else E.nan i }) rfl rfl (fun i hi => ⟨by simp; omega, rfl⟩) rfl d).2
      · cases he
    · cases he
  | makeSlice t x y =>
    simp only [heapR] at he
    split at he
    · rename_i e l c hu hx hy
      split at he
      · rename_i i zv hi hz
        split at he
        · rename_i hc
          obtain ⟨h1, h2, h3, h4, h5, h6, h7⟩ := hc
          refine done_one he (hE.new rfl) ?_
          have hn := new_run (P := P) hN s.hp d (List.replicate c.toNat ((cellsL zv).getD 0 undef)) e
          simp only [execOp, Instr.makeSlice, Sem.run_bind, run_under hu, Result.andThen_ok, hρ x (by simp [Op.operands]), hρ y (by simp [Op.operands]), hx, hy, sh_int, asInt, asIntOf, Sem.run_pure, run_info hi]
          have hw : ∀ z : Int, 0 ≤ z → z ≤ 1000 → IntKind.i64.wrap z = z := by
            intro z hz0 hz1
            have hm : z % (2 ^ 64 : Int) = z := Int.emod_eq_of_lt hz0 (by omega)
            simp only [IntKind.wrap, IntKind.signed, IntKind.bits, hm]
            rw [if_neg]
            simp
            omega
          rw [hw c (by omega) h6, hw l h3 (by omega)]
          have hb : (decide (c < 0) || decide (↑i.bytes * c > 2 ^ 48) || decide (l < 0) || decide (l > c)) = false := by
            have : (i.bytes : Int) * c ≤ 1000 * 1000 := by
              have h8 : (i.bytes : Int) ≤ 1000 := by omega
              exact Int.mul_le_mul h8 h6 (by omega) (by omega)
            simp
            omega
          rw [hb]
          simp only [Bool.false_eq_true, if_false, Sem.run_bind, run_askRoom, Result.andThen_ok]
          have hs1 : (sizeOf e).run P (mk E w0 s.hp d) = .ok 1 (mk E w0 s.hp d) := by rw [← h1]; exact run_size (by simp [tySz, hi]) _
          rw [hs1]
          simp only [Result.andThen_ok, Nat.mul_one]
          rw [if_neg (by omega)]
          simp only [Sem.run_bind, run_zero hz, Result.andThen_ok, Sem.run_pure]
          have hzl : ∃ z0, cellsL zv = [z0] := by
            match hcl : cellsL zv, h2 with
            | [z0], _ => exact ⟨z0, rfl⟩
          obtain ⟨z0, hz0⟩ := hzl
          have hscal : scal z0 = true := by
            have := zero_scal hz
            rw [hz0] at this
            simpa using this
          have hrow : (Array.range c.toNat).map (fun x => zv.cells[x % zv.cells.size]!) = ((List.replicate c.toNat ((cellsL zv).getD 0 undef)).map (sh E)).toArray := by
            rw [cells_eq, hz0, ← Array.toList_inj]
            simp [sh_scal E hscal]
            apply List.ext_getElem
            · simp
            · intro n h1 h2
              simp [Nat.mod_one]
          rw [hrow, hn]
          simp only [Result.andThen_ok, Sem.run_pure, sh_slice]
          rw [unkC_lt E (by omega)]
        · cases he
      · cases he
    · cases he
  | range t x =>
    simp only [heapR] at he
    split at he
    · rename_i kt et r hu hm
      split at he
      · rename_i es c hes
        cases he
        refine ⟨_, _, s.u, d, _, { E with ob := fun i => if i = s.hp.length then .mapIter (some (E.N + r)) c #[] c else E.ob i }, List.mem_singleton.2 rfl, ?_, .inl rfl, ?_, ⟨Nat.le_refl _, fun _ _ => ⟨rfl, rfl⟩⟩, ?_⟩
        · have hp := mk_pushOb (E := E) (w0 := w0) s.hp d (.mapIter (some r) c #[] c) (.mapIter (some (E.N + r)) c #[] c) (by simp [shO])
          rw [← hp]
          simp [execOp, Instr.range, run_under hu, hρ x (by simp [Op.operands]), hm, sh_map, getObj_map hN hes, sh_ptr, shA, mk_size E hN]
        · refine ⟨hE.hN, hE.arg, hE.nan, ?_, ob_fz hE.fz _ _ rfl⟩
          intro i m' s' seen st hg
          unfold newR at hg
          rw [List.getElem?_append] at hg
          split at hg
          · rename_i hlt
            have := hE.it i m' s' seen st hg
            simp only [show ¬ i = s.hp.length by omega, if_false]
            exact this
          · rename_i hl
            have h0 : i - s.hp.length = 0 := by
              have := (List.getElem?_eq_some_iff.1 hg).1
              simp at this; omega
            rw [h0] at hg
            simp only [List.getElem?_cons_zero, Option.some.injEq, Obj.mapIter.injEq] at hg
            obtain ⟨rfl, rfl, rfl, rfl⟩ := hg
            have hi : i = s.hp.length := by omega
            exact ⟨#[], by simp [hi], by simp, by simp⟩
        · exact List.map_congr_left fun v _ => sh_ob _ v
      · cases he
    · cases he
  | next x isStr =>
    cases isStr with
    | true => simp [heapR] at he
    | false =>
      simp only [heapR] at he
      split at he
      · rename_i b hx
        split at he
        · rename_i m since seen last hb
          split at he
          · rename_i es c hes
            split at he
            · cases he
            · rename_i hg
              cases he
              obtain ⟨arr, hob, hback, hcon⟩ := hE.it b _ _ _ _ hb
              have hpos : 0 < (candR es.toList since seen.toList).length := List.length_pos_iff.2 (cand_ne _ _ _)
              obtain ⟨k, d', hk, hch⟩ := choose_mk (P := P) (E := E) (w0 := w0) s.hp d (candR es.toList since seen.toList).length hpos
              have hcand := cand_eq (es.map (shE E)) since arr
              rw [Array.toList_map, cand_map, cand_congr es.toList since (l := arr.toList) (l' := seen.toList) (fun x => by rw [← hcon x]; simp)] at hcand
              have hemp : arr.isEmpty = seen.toList.isEmpty := by
                cases hl : seen.toList with
                | nil =>
                  rw [hl] at hback
                  simp at hback
                  simp [hback]
                | cons a l =>
                  rw [hl] at hback
                  cases ha : arr.isEmpty with
                  | true =>
                    have : arr = #[] := by simpa using ha
                    rw [this, List.getLast?_cons] at hback
                    simp at hback
                  | false => rfl
              have hgm : (!arr.isEmpty && !(es.map (shE E)).isEmpty && (es.map (shE E)).all fun e => decide (e.born ≥ last)) = false := by
                have := hg
                simp only [Bool.not_eq_true] at this
                rw [← this, hemp]
                congr 1
                · rw [← Array.isEmpty_toList, Array.toList_map, List.isEmpty_map]
                · rw [← Array.all_toList, Array.toList_map, List.all_map]
                  rfl
              have hget : ((List.map (Option.map (shE E)) (candR es.toList since seen.toList)).toArray)[k]? = some (((candR es.toList since seen.toList)[k]).map (shE E)) := by
                simp [hk]
              have hmem : (candR es.toList since seen.toList)[k] ∈ candR es.toList since seen.toList := List.getElem_mem hk
              have hsz : ((List.map (Option.map (shE E)) (candR es.toList since seen.toList)).toArray).size = (candR es.toList since seen.toList).length := by simp
              have hrun : (execOp ev { dst := dst, op := .next x false, type := type, pos := pos, after := after, guard := guard }).run P (mk E w0 s.hp d) =
                  ((match ((candR es.toList since seen.toList)[k]).map (shE E) with
                    | some e => do
                      setObj (E.N + b) (.mapIter (some (E.N + m)) since (arr.push e.born) c)
                      pure (.value (.tuple #[.bool true, e.key, e.val]))
                    | none => pure (.value (.tuple #[.bool false])) : Sem Next)).run P (mk E w0 s.hp d') := by
                simp only [execOp, Instr.next, hρ x (by simp [Op.operands]), hx, sh_ptr, shA, Sem.run_bind, getObj_iter hN hb hob, Option.map_some, Result.andThen_ok, getObj_map hN hes]
                rw [hgm]
                simp only [Bool.false_eq_true, if_false]
                rw [hcand, hsz]
                simp only [Sem.run_bind, hch, Result.andThen_ok, hget]
                cases (candR es.toList since seen.toList)[k] with
                | none => rfl
                | some e =>
                  simp only [Option.map_some, Sem.run_bind]
                  generalize (setObj (E.N + b) (.mapIter (some (E.N + m)) since (arr.push (shE E e).born) c)).run P (mk E w0 s.hp d') = r
                  cases r <;> rfl
              cases hck : (candR es.toList since seen.toList)[k] with
              | none =>
                rw [hck] at hrun hmem
                have hsame : mk E w0 (s.hp.set b (.coro none)) d' = mk E w0 s.hp d' := by
                  unfold mk
                  congr 3
                  rw [mapIdx_set']
                  apply List.ext_getElem?
                  intro i
                  simp only [List.getElem?_set, List.getElem?_mapIdx, List.length_mapIdx]
                  by_cases hi : b = i
                  · subst hi
                    obtain ⟨hlt, hge⟩ := List.getElem?_eq_some_iff.1 hb
                    simp [hlt, hge, shO]
                  · simp [hi]
                refine ⟨_, _, _, d', _, E, List.mem_map.2 ⟨none, hmem, rfl⟩, ?_, .inl rfl, hE.set rfl, Same.refl _ _, rfl⟩
                rw [hrun, hsame]
                simp [sh_tuple, sh_bool]
              | some e =>
                rw [hck] at hrun hmem
                refine ⟨_, _, _, d', _, { E with ob := fun i => if i = b then .mapIter (some (E.N + m)) since (arr.push e.born) c else E.ob i }, List.mem_map.2 ⟨some e, hmem, rfl⟩, ?_, .inl rfl, ?_, ⟨Nat.le_refl _, fun _ _ => ⟨rfl, rfl⟩⟩, List.map_congr_left fun v _ => sh_ob _ v⟩
                · rw [hrun, ← mk_setOb hN s.hp d' b (.mapIter (some m) since ⟨isort seen.toList ++ [e.born]⟩ c) _ (by simp [shO])]
                  have e1 : ∀ v, sh { E with ob := fun i => if i = b then Obj.mapIter (some (E.N + m)) since (arr.push e.born) c else E.ob i } v = sh E v := sh_ob _
                  simp only [Option.map_some, Sem.run_bind, setObj, Sem.run, mk_iter hN hb, hob, Result.andThen_ok]
                  simp [shE, sh_tuple, sh_bool, e1]
                · refine ⟨hE.hN, hE.arg, hE.nan, ?_, ob_fz hE.fz _ _ rfl⟩
                  intro i m' s' seen' st' hgi
                  rw [List.getElem?_set] at hgi
                  split at hgi
                  · rename_i hbi
                    subst hbi
                    split at hgi
                    · simp only [Option.some.injEq, Obj.mapIter.injEq] at hgi
                      obtain ⟨rfl, rfl, rfl, rfl⟩ := hgi
                      refine ⟨arr.push e.born, by simp, by simp, fun y => ?_⟩
                      have h1 : (arr.push e.born).contains y = (arr.toList ++ [e.born]).contains y := by simp
                      have h2 := hcon y
                      have h3 : arr.contains y = arr.toList.contains y := by simp
                      rw [h1]
                      simp only [List.contains_append, mem_isort]
                      rw [← h3, h2]
                    · cases hgi
                  · rename_i hbi
                    have := hE.it i m' s' seen' st' hgi
                    simp only [show ¬ i = b by omega, if_false]
                    exact this
          · cases he
        · cases he
      · cases he
  | entry x =>
    simp only [heapR] at he
    split at he
    · rename_i b hx
      split at he
      · rename_i m s' seen stepped hb
        split at he
        · rename_i es c stamp hes hst
          split at he
          · rename_i hc
            split at he
            · rename_i e hf
              refine done_one he hE ?_
              obtain ⟨arr, hob, hback, _⟩ := hE.it b _ _ _ _ hb
              rw [hst] at hback
              have hfe : (es.map (shE E)).find? (fun x => x.born == stamp) = some (shE E e) := by
                rw [Array.find?_map]
                have : es.find? ((fun x => x.born == stamp) ∘ shE E) = some e := by simpa [Function.comp_def, shE] using hf
                rw [this]; rfl
              simp only [execOp, Instr.entry, hρ x (by simp [Op.operands]), hx, sh_ptr, shA, Sem.run_bind, getObj_iter hN hb hob, Result.andThen_ok, hback, Option.map_some, getObj_map hN hes]
              simp [hc, hfe, sh_tuple, shE]
            · cases he
          · cases he
        · cases he
      · cases he
    · cases he
  | call c =>
    obtain ⟨callee, args, argTypes⟩ := c
    simp only [heapR] at he
    split at he
    · rename_i x t hargs hts
      have ea : args = #[x] := by rw [← Array.toList_inj, hargs]
      have et : argTypes = #[t] := by rw [← Array.toList_inj, hts]
      subst ea et
      have hx := hρ x (by simp [Op.operands, Call.operands])
      split at he
      · rename_i kt vt r hu hv
        split at he
        · rename_i es c hes
          refine done_one he hE ?_
          simp [execOp, resolve, invoke, builtin, Builtin.len_, run_under hu, hx, hv, sh_map, getObj_map hN hes, goInt, sh_int]
        · cases he
      · cases he
    · rename_i x k t t2 hargs hts
      have ea : args = #[x, k] := by rw [← Array.toList_inj, hargs]
      have et : argTypes = #[t, t2] := by rw [← Array.toList_inj, hts]
      subst ea et
      have hx := hρ x (by simp [Op.operands, Call.operands])
      have hk' := hρ k (by simp [Op.operands, Call.operands])
      split at he
      · rename_i kt vt r hu hv
        split at he
        · rename_i es c hes
          split at he
          · rename_i hk
            split at he
            · rename_i i v' hf
              refine done_one he (hE.set rfl) ?_
              have hfr := find_run (E := E) hE.nan hk hf
              simp only [Option.map_some, Array.toList_map] at hfr
              have hset := setObj_map (P := P) (d := d) hN hes (.map ⟨es.toList.eraseIdx i⟩ c)
              have eo : shO E r (.map ⟨es.toList.eraseIdx i⟩ c) = .map ((es.map (shE E)).eraseIdxIfInBounds i) c := by
                simp only [shO]
                congr 1
                rw [← Array.toList_inj]
                simp [map_erase]
              rw [eo] at hset
              simp [execOp, resolve, invoke, builtin, Builtin.delete_, run_under hu, hx, hk', hv, sh_map, getObj_map hN hes, key_run hk, hfr, hset, sh_tuple]
            · rename_i hf
              refine done_one he (hE.set rfl) ?_
              have hfr := find_run (E := E) hE.nan hk hf
              simp only [Option.map_none, Array.toList_map] at hfr
              have hset := setObj_map (P := P) (d := d) hN hes (.map ⟨es.toList⟩ c)
              have eo : shO E r (.map ⟨es.toList⟩ c) = .map (es.map (shE E)) c := rfl
              rw [eo] at hset
              simp [execOp, resolve, invoke, builtin, Builtin.delete_, run_under hu, hx, hk', hv, sh_map, getObj_map hN hes, key_run hk, hfr, hset, sh_tuple]
            · cases he
          · cases he
        · cases he
      · cases he
    · rename_i x t hargs hts
      have ea : args = #[x] := by rw [← Array.toList_inj, hargs]
      have et : argTypes = #[t] := by rw [← Array.toList_inj, hts]
      subst ea et
      have hx := hρ x (by simp [Op.operands, Call.operands])
      split at he
      · rename_i kt vt r hut hv
        split at he
        · rename_i es c hes
          refine done_one he (hE.set rfl) ?_
          have hset := setObj_map (P := P) (d := d) hN hes (.map #[] c)
          simp only [shO] at hset
          have e0 : Array.map (shE E) #[] = #[] := by simp
          rw [e0] at hset
          simp [execOp, resolve, invoke, builtin, Builtin.clear_, run_under hut, hx, hv, sh_map, getObj_map hN hes, hset, sh_tuple]
        · cases he
      · cases he
    · rename_i x y t t2 hargs hts
      have ea : args = #[x, y] := by rw [← Array.toList_inj, hargs]
      have et : argTypes = #[t, t2] := by rw [← Array.toList_inj, hts]
      subst ea et
      have hx := hρ x (by simp [Op.operands, Call.operands])
      have hy := hρ y (by simp [Op.operands, Call.operands])
      split at he
      · rename_i e2 hu2
        refine append_run (ty := type) hE hu2 he d fun w => ?_
        simp only [execOp, resolve, invoke, builtin, Sem.run_bind, Sem.run_pure, Result.andThen_ok]
        simp [hx, hy]
      · cases he
    · cases he
  | _ => simp [heapR] at he
end
end Go.Rel
