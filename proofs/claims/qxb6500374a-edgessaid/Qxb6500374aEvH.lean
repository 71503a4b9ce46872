import Derived.Test.Qxb6500374aEvG
set_option linter.unusedSimpArgs false
set_option linter.unusedVariables false
namespace Go.Rel

/-! ### equal states -/
theorem leqB_eq {α : Type} {f : α → α → Bool} (hf : ∀ a b, f a b = true → a = b) : ∀ {l m : List α}, leqB f l m = true → l = m := by
  intro l
  induction l with
  | nil => intro m h; cases m with
    | nil => rfl
    | cons b m => simp [leqB] at h
  | cons a l ih =>
    intro m h
    cases m with
    | nil => simp [leqB] at h
    | cons b m =>
      simp only [leqB, Bool.and_eq_true] at h
      rw [hf a b h.1, ih h.2]

theorem veq_eq : ∀ (n : Nat) (a b : Value), veq n a b = true → a = b := by
  intro n
  induction n with
  | zero => intro a b h; simp [veq] at h
  | succ n ih =>
    intro a b h
    have hl : ∀ {x y : Array Value}, leqB (veq n) x.toList y.toList = true → x = y := fun hh => by
      rw [← Array.toList_inj]; exact leqB_eq ih hh
    simp only [veq] at h
    split at h
    · simpa using h
    · simp only [Bool.and_eq_true, decide_eq_true_eq] at h; rw [h.1, h.2]
    · simp only [Bool.and_eq_true, decide_eq_true_eq] at h; rw [h.1, h.2]
    · simp only [Bool.and_eq_true, decide_eq_true_eq] at h; rw [h.1.1, h.1.2, h.2]
    · rename_i x y
      have := leqB_eq (fun a b hh => of_decide_eq_true hh) h
      congr 1
      apply ByteArray.ext
      rw [← Array.toList_inj]; exact this
    · simp only [decide_eq_true_eq] at h; rw [h]
    · simp only [Bool.and_eq_true, decide_eq_true_eq] at h; rw [h.1.1, h.1.2, h.2]
    · simp only [decide_eq_true_eq] at h; rw [h]
    · simp only [decide_eq_true_eq] at h; rw [h]
    · simp only [Bool.and_eq_true, decide_eq_true_eq] at h; rw [h.1.1, hl h.1.2, hl h.2]
    · rfl
    · simp only [Bool.and_eq_true, decide_eq_true_eq] at h; rw [h.1, ih _ _ h.2]
    · rfl
    · rw [hl h]
    · rw [hl h]
    · cases h

theorem entEq_eq (a b : MapEntry) (h : entEq a b = true) : a = b := by
  obtain ⟨k, v, n⟩ := a
  obtain ⟨k', v', n'⟩ := b
  simp only [entEq, Bool.and_eq_true, decide_eq_true_eq] at h
  rw [veq_eq _ _ _ h.1.1, veq_eq _ _ _ h.1.2, h.2]

theorem objEq_eq (a b : Obj) (h : objEq a b = true) : a = b := by
  unfold objEq at h
  split at h
  · simp only [Bool.and_eq_true, decide_eq_true_eq] at h
    have := leqB_eq (veq_eq 9) h.1.1
    rw [h.1.2, h.2, Array.toList_inj.1 this]
  · simp only [Bool.and_eq_true, decide_eq_true_eq] at h
    rw [h.2, Array.toList_inj.1 (leqB_eq entEq_eq h.1)]
  · rfl
  · simp only [Bool.and_eq_true, decide_eq_true_eq] at h
    rw [h.1.1.1.1.1, Array.toList_inj.1 (leqB_eq (veq_eq 9) h.1.1.1.1.2), h.1.1.1.2, h.1.1.2, h.1.2, h.2]
  · simp only [Bool.and_eq_true, decide_eq_true_eq] at h
    rw [h.1.1.1, h.1.1.2, h.2, Array.toList_inj.1 (leqB_eq (fun a b hh => of_decide_eq_true hh) h.1.2)]
  · cases h

theorem stEq_eq {s t : St} (h : stEq s t = true) : s = t := by
  obtain ⟨tm, hp, u⟩ := s
  obtain ⟨tm', hp', u'⟩ := t
  simp only [stEq, Bool.and_eq_true, decide_eq_true_eq] at h
  rw [leqB_eq (veq_eq 9) h.1.2, leqB_eq objEq_eq h.2, h.1.1]

theorem outEq_eq {a b : Value × List Obj × Nat} (h : outEq a b = true) : a = b := by
  obtain ⟨v, hp, u⟩ := a
  obtain ⟨v', hp', u'⟩ := b
  simp only [outEq, Bool.and_eq_true, decide_eq_true_eq] at h
  rw [veq_eq _ _ _ h.1.2, leqB_eq objEq_eq h.2, h.1.1]

theorem mem_dedupO : ∀ {l : Outs} {s : Value × List Obj × Nat}, s ∈ l → s ∈ dedupO l := by
  intro l
  induction l with
  | nil => intro s h; cases h
  | cons t l ih =>
    intro s h
    cases l with
    | nil => simpa [dedupO] using h
    | cons u l =>
      simp only [dedupO]
      split
      · rename_i hany
        rcases List.mem_cons.1 h with rfl | h
        · obtain ⟨x, hx, he⟩ := List.any_eq_true.1 hany
          rw [outEq_eq he]; exact hx
        · exact ih h
      · rcases List.mem_cons.1 h with rfl | h
        · exact List.mem_cons_self
        · exact List.mem_cons_of_mem _ (ih h)

theorem mem_dedup : ∀ {l : List St} {s : St}, s ∈ l → s ∈ dedup l := by
  intro l
  induction l with
  | nil => intro s h; cases h
  | cons t l ih =>
    intro s h
    cases l with
    | nil => simpa [dedup] using h
    | cons u l =>
      simp only [dedup]
      split
      · rename_i hany
        rcases List.mem_cons.1 h with rfl | h
        · obtain ⟨x, hx, he⟩ := List.any_eq_true.1 hany
          rw [stEq_eq he]; exact hx
        · exact ih h
      · rcases List.mem_cons.1 h with rfl | h
        · exact List.mem_cons_self
        · exact List.mem_cons_of_mem _ (ih h)

theorem mem_eachR {g : Nat → Option (List St)} : ∀ {l : List Nat} {outs : List St}, eachR g l = some outs → ∀ i ∈ l, ∃ o, g i = some o ∧ ∀ x ∈ o, x ∈ outs := by
  intro l
  induction l with
  | nil => intro outs _ s hs; cases hs
  | cons t l ih =>
    intro outs h s hs
    simp only [eachR] at h
    split at h
    · rename_i a b ha hb
      cases h
      rcases List.mem_cons.1 hs with rfl | hs
      · exact ⟨a, ha, fun x hx => List.mem_append_left _ hx⟩
      · obtain ⟨o, ho, hm⟩ := ih hb s hs
        exact ⟨o, ho, fun x hx => List.mem_append_right _ (hm x hx)⟩
    · cases h

section
variable {P : Program} {w0 : World}

theorem draw_wp {A : Option Addr × Nat × Nat} {u0 : Nat} {E0 : Env} (hNG : ∀ (f : Nat) (fn : Func), P.funcs[f]? = some fn → fn.name ≠ "runtime.NumGoroutine") {call : CallF} (hc : CallOK P A w0 call) {ops : Array Oper} (hsel : Region.noSelect ops = true)
    {Q : Exit → Act → World → Prop} (hQp : ∀ c a w, ¬ Q (.panic c) a w) :
    ∀ {n : Nat} {listed : Array Bool} {s : St} {outs : List St} {a : Act} {w : World}, drawR P call ops n listed s = some outs → Rep A w0 u0 E0 s a w →
    (∀ s' ∈ outs, ∀ a' w', Rep A w0 u0 E0 s' a' w' → Q .normal a' w') → wpAny P .any ops Q n listed a w := by
  intro n
  induction n with
  | zero =>
    intro listed s outs a w h hr hQ
    simp only [drawR] at h
    split at h
    · rename_i he
      cases h
      exact wpAny_done (by simpa using he) (hQ s (by simp) a w hr) 0
    · cases h
  | succ n ih =>
    intro listed s outs a w h hr hQ
    simp only [drawR] at h
    split at h
    · rename_i he
      cases h
      exact wpAny_done he (hQ s (by simp) a w hr) _
    · rename_i i rs hrd
      split at h
      · rename_i j hfind
        have hmem : j ∈ i :: rs := List.mem_of_find?_eq_some hfind
        have hfree : freeR P ops listed s j = true := List.find?_some hfind
        split at h
        · rename_i o ho
          split at h
          · rename_i s' hs'
            simp only [freeR, ho, Bool.and_eq_true, Bool.or_eq_true, beq_iff_eq] at hfree
            obtain ⟨hw, hfr⟩ := hfree
            have hr0 := hr
            obtain ⟨E, d, ht, hdf, hwd, hE, hsm⟩ := hr
            have hcont : (Region.ready .any ops listed).contains j = true := by rw [hrd]; simpa using hmem
            rcases hw with hw | ⟨hx, hp⟩
            · have e : s' = s.put o.dst undef := by
                unfold opR at hs'
                rw [hw] at hs'
                simp only [Bool.false_eq_true, if_false, Option.some.injEq, List.cons.injEq, and_true] at hs'
                exact hs'.symm
              subst e
              exact wpAny_take (v := undef) ho hsel hfr hcont (fun c a w hq => absurd hq (hQp c _ w))
                (.inr ⟨by rw [want_eq ht]; exact hw, rfl⟩) (ih h (put_undef hr0 o.dst) hQ)
            · by_cases hw : wantR ops.toList s.tm o = true
              · obtain ⟨v, hv⟩ := Option.isSome_iff_exists.1 hp
                have e : s' = s.put o.dst v := by
                  unfold opR at hs'
                  rw [if_pos hw, if_pos hx, hv] at hs'
                  simp only [Option.some.injEq, List.cons.injEq, and_true] at hs'
                  exact hs'.symm
                subst e
                have hρ : ∀ x ∈ o.op.operands, a.eval x = sh E (rho s.tm x) := fun x hxm => eval_rho ht (List.all_eq_true.1 hx x (by simpa using hxm))
                refine wpAny_take (v := sh E v) ho hsel hfr hcont (fun c a w hq => absurd hq (hQp c _ w))
                  (.inl ⟨by rw [want_eq ht]; exact hw, fun w => pure_run hE.nan hρ hv w⟩) (ih h ?_ hQ)
                rw [hwd]
                exact put_rep (d := d) ht hdf rfl o.dst v hE hsm
              · have hw : wantR ops.toList s.tm o = false := by simpa using hw
                have e : s' = s.put o.dst undef := by
                  unfold opR at hs'
                  rw [hw] at hs'
                  simp only [Bool.false_eq_true, if_false, Option.some.injEq, List.cons.injEq, and_true] at hs'
                  exact hs'.symm
                subst e
                exact wpAny_take (v := undef) ho hsel hfr hcont (fun c a w hq => absurd hq (hQp c _ w))
                  (.inr ⟨by rw [want_eq ht]; exact hw, rfl⟩) (ih h (put_undef hr0 o.dst) hQ)
          · cases h
        · cases h
      · refine wpAny_all hrd (by simp) fun j hj => ?_
        obtain ⟨o', ho', hsub⟩ := mem_eachR h j hj
        cases ho : ops[j]? with
        | none => simp [ho] at ho'
        | some o =>
          simp only [ho] at ho'
          split at ho'
          · rename_i l hl
            have hop := op_wp (Q := Q) (K := wpAny P .any ops Q n (listed.setIfInBounds j true)) hNG hc hl hr (fun s' hs' a' w' hr' => by
              obtain ⟨o2, ho2, hsub2⟩ := mem_bindAll ho' s' hs'
              exact ih ho2 hr' fun x hx => hQ x (hsub x (hsub2 x hx)))
            unfold wpOp
            simp only [ho]
            split
            · rename_i hwt; rw [if_pos hwt] at hop; exact .inl hop
            · rename_i hwt; rw [if_neg hwt] at hop; exact hop
          · cases ho'

/-- A loop that a given number of rounds brings to its end. -/
theorem wp_loop_fuel {c : Code} {Q : Exit → Act → World → Prop} (I : Nat → Act → World → Prop) (h0 : ∀ a w, ¬ I 0 a w)
    (round : ∀ n a w, I (n + 1) a w → c.wp P (Exit.then (I n) Q) a w) : ∀ n a w, I n a w → (Code.loop c).wp P Q a w := by
  intro n a w hI b k cs
  have key : ∀ n a w, I n a w → ∃ e a' w', Q e a' w' ∧ Arrives P (lone (b.at a (.code c :: .inLoop c :: k)) cs w) b k cs e a' w' := by
    intro n
    induction n with
    | zero => intro a w hI; exact absurd hI (h0 a w)
    | succ n ih =>
      intro a w hI
      obtain ⟨e, a₁, w₁, hq, harr⟩ := round n a w hI b (.inLoop c :: k) cs
      cases e with
      | normal =>
        obtain ⟨e₂, a₂, w₂, hq₂, harr₂⟩ := ih a₁ w₁ hq
        exact ⟨e₂, a₂, w₂, hq₂, .of_steps (Steps.trans harr (.one step_inLoop)) harr₂⟩
      | exit id => exact ⟨_, a₁, w₁, hq, .pass (x := .inLoop c) rfl (fun _ _ => .inl (by simp)) harr⟩
      | goto l => exact ⟨_, a₁, w₁, hq, .pass (x := .inLoop c) rfl (fun _ _ => .inl (by simp)) harr⟩
      | ret => exact ⟨_, a₁, w₁, hq, .pass (x := .inLoop c) rfl (fun _ _ => .inl (by simp)) harr⟩
      | panic ch => exact ⟨_, a₁, w₁, hq, .pass (x := .inLoop c) rfl (fun _ _ => .inl (by simp)) harr⟩
      | outgrown => exact ⟨_, a₁, w₁, hq, .pass (x := .inLoop c) rfl (fun _ _ => .inl (by simp)) harr⟩
  obtain ⟨e, a', w', hq, harr⟩ := key n a w hI
  exact ⟨e, a', w', hq, .of_steps (.one step_loop) harr⟩

theorem mem_bindX {f : St → Option Ex} : ∀ {l outs : Ex}, bindX f l = some outs → ∀ e s, (e, s) ∈ l →
    (e = .normal → ∃ o, f s = some o ∧ ∀ x ∈ o, x ∈ outs) ∧ (e ≠ .normal → (e, s) ∈ outs) := by
  intro l
  induction l with
  | nil => intro outs _ e s hs; cases hs
  | cons t l ih =>
    intro outs h e s hs
    obtain ⟨e1, s1⟩ := t
    cases e1 with
    | normal =>
      simp only [bindX] at h
      split at h
      · rename_i a b ha hb
        cases h
        rcases List.mem_cons.1 hs with he | hs
        · cases he
          exact ⟨fun _ => ⟨a, ha, fun x hx => List.mem_append_left _ hx⟩, fun hne => absurd rfl hne⟩
        · obtain ⟨h1, h2⟩ := ih hb e s hs
          refine ⟨fun hn => ?_, fun hne => List.mem_append_right _ (h2 hne)⟩
          obtain ⟨o, ho, hm⟩ := h1 hn
          exact ⟨o, ho, fun x hx => List.mem_append_right _ (hm x hx)⟩
      · cases h
    | _ =>
      simp only [bindX] at h
      split at h
      · rename_i b hb
        cases h
        rcases List.mem_cons.1 hs with he | hs
        · cases he
          exact ⟨fun hn => (by cases hn), fun _ => List.mem_cons_self⟩
        · obtain ⟨h1, h2⟩ := ih hb e s hs
          refine ⟨fun hn => ?_, fun hne => List.mem_cons_of_mem _ (h2 hne)⟩
          obtain ⟨o, ho, hm⟩ := h1 hn
          exact ⟨o, ho, fun x hx => List.mem_cons_of_mem _ (hm x hx)⟩
      · cases h

theorem mem_normals : ∀ {l : Ex} {s : St}, (Exit.normal, s) ∈ l → s ∈ normals l := by
  intro l
  induction l with
  | nil => intro s h; cases h
  | cons t l ih =>
    intro s h
    obtain ⟨e, s1⟩ := t
    rcases List.mem_cons.1 h with he | h'
    · cases he; simp [normals]
    · have := ih h'
      cases e <;> simp [normals, this]

theorem mem_others : ∀ {l : Ex} {e : Exit} {s : St}, e ≠ .normal → (e, s) ∈ l → (e, s) ∈ others l := by
  intro l
  induction l with
  | nil => intro e s _ h; cases h
  | cons t l ih =>
    intro e s hne h
    obtain ⟨e1, s1⟩ := t
    rcases List.mem_cons.1 h with he | h'
    · cases he
      cases e <;> first | (exact absurd rfl hne) | simp [others]
    · have := ih hne h'
      cases e1 <;> simp [others, this]

theorem mem_allX {f : St → Option Ex} : ∀ {l : List St} {outs : Ex}, allX f l = some outs → ∀ s ∈ l, ∃ o, f s = some o ∧ ∀ x ∈ o, x ∈ outs := by
  intro l
  induction l with
  | nil => intro outs _ s hs; cases hs
  | cons t l ih =>
    intro outs h s hs
    simp only [allX] at h
    split at h
    · rename_i a b ha hb
      cases h
      rcases List.mem_cons.1 hs with rfl | hs
      · exact ⟨a, ha, fun x hx => List.mem_append_left _ hx⟩
      · obtain ⟨o, ho, hm⟩ := ih hb s hs
        exact ⟨o, ho, fun x hx => List.mem_append_right _ (hm x hx)⟩
    · cases h

theorem code_wp {A : Option Addr × Nat × Nat} {u0 : Nat} {E0 : Env} (hNG : ∀ (f : Nat) (fn : Func), P.funcs[f]? = some fn → fn.name ≠ "runtime.NumGoroutine") (hmix : P.follows .mixedOrders = true) {call : CallF} (hc : CallOK P A w0 call) (fuel : Nat) :
    ∀ (c : Code) {s : St} {outs : Ex} {a : Act} {w : World} {Q : Exit → Act → World → Prop}, codeR P call (regionR P call) fuel c s = some outs → Rep A w0 u0 E0 s a w →
    (∀ e s', (e, s') ∈ outs → ∀ a' w', Rep A w0 u0 E0 s' a' w' → Q e a' w') → c.wp P Q a w := by
  intro c
  induction c with
  | skip =>
    intro s outs a w Q h hr hQ
    simp only [codeR, Option.some.injEq] at h
    subst h
    exact wp_skip (hQ _ _ (by simp) a w hr)
  | region id ops draw =>
    intro s outs a w Q h hr hQ
    simp only [codeR] at h
    split at h
    · rename_i l hl
      cases h
      have hQ' : ∀ s' ∈ l, ∀ a' w', Rep A w0 u0 E0 s' a' w' → Q .normal a' w' := fun s' hs' => hQ .normal s' (List.mem_map.2 ⟨s', hs', rfl⟩)
      cases draw with
      | false =>
        simp only [Bool.false_eq_true, if_false] at hl
        exact wp_region_list (ops_wp hNG hc hl hr hQ')
      | true =>
        simp only [if_true, regionR] at hl
        split at hl
        · rename_i hsel
          split at hl
          · rename_i l' hl'
            cases hl
            have hr' : Rep A w0 u0 E0 s a { w with drawn := w.drawn + 1 } := by
              obtain ⟨E, d, h1, h2, h3, h4, h5⟩ := hr
              exact ⟨E, d + 1, h1, h2, by rw [h3]; rfl, h4, h5⟩
            refine Code.wp_mono (Q := fun e a w => match e with | .normal => Q .normal a w | _ => False) ?_ (wp_region_any hmix ?_)
            · intro e a w hq
              cases e <;> first | exact hq | exact hq.elim
            · exact draw_wp hNG hc hsel (fun c a w hq => hq) hl' hr' (fun s' hs' a' w' hr' => hQ' s' (mem_dedup hs') a' w' hr')
          · cases hl
        · cases hl
    · cases h
  | seq x y ihx ihy =>
    intro s outs a w Q h hr hQ
    simp only [codeR] at h
    split at h
    · rename_i o1 h1
      refine wp_seq (ihx h1 hr fun e s' hs' a' w' hr' => ?_)
      obtain ⟨m1, m2⟩ := mem_bindX h e s' hs'
      cases e with
      | normal =>
        obtain ⟨o2, ho2, hsub⟩ := m1 rfl
        exact ihy ho2 hr' fun e2 s2 hs2 => hQ e2 s2 (hsub _ hs2)
      | _ => exact hQ _ s' (m2 (by simp)) a' w' hr'
    · cases h
  | cond c x y ihx ihy =>
    intro s outs a w Q h hr hQ
    simp only [codeR] at h
    split at h
    · rename_i hx
      have hr0 := hr
      obtain ⟨E, d, ht, _, _, _, _⟩ := hr
      have he := eval_rho (E := E) ht hx
      split at h
      · rename_i hb
        rw [hb, sh_bool] at he
        exact wp_cond_true he (ihx h hr0 hQ)
      · rename_i hb
        rw [hb, sh_bool] at he
        exact wp_cond_false he (ihy h hr0 hQ)
      · cases h
    · cases h
  | block id c ih =>
    intro s outs a w Q h hr hQ
    simp only [codeR] at h
    split at h
    · rename_i o1 h1
      cases h
      refine wp_block (ih h1 hr fun e s' hs' a' w' hr' => ?_)
      have hm := List.mem_map_of_mem (f := unexit id) hs'
      cases e with
      | exit j =>
        simp only [Exit.inBlock]
        simp only [unexit] at hm
        split at hm
        · rename_i hj; rw [if_pos hj]; exact hQ _ _ hm a' w' hr'
        · rename_i hj; rw [if_neg hj]; exact hQ _ _ hm a' w' hr'
      | _ => exact hQ _ _ hm a' w' hr'
    · cases h
  | loop c ih =>
    intro s outs a w Q h hr hQ
    simp only [codeR] at h
    refine wp_loop_fuel (fun n a w => ∃ sts s o, s ∈ sts ∧ Rep A w0 u0 E0 s a w ∧ loopR (codeR P call (regionR P call) fuel c) n sts = some o ∧ ∀ e s', (e, s') ∈ o → ∀ a' w', Rep A w0 u0 E0 s' a' w' → Q e a' w') ?_ ?_ fuel a w
      ⟨[s], s, outs, by simp, hr, h, hQ⟩
    · rintro a w ⟨sts, s, o, _, _, hl, _⟩
      simp [loopR] at hl
    · rintro n a w ⟨sts, s, o, hs, hr, hl, hQ⟩
      cases sts with
      | nil => cases hs
      | cons s0 r =>
        simp only [loopR] at hl
        split at hl
        · cases hl
        · rename_i o1 h1
          split at hl
          · cases hl
          · rename_i more hmore
            cases hl
            obtain ⟨o2, ho2, hsub⟩ := mem_allX h1 s hs
            refine ih ho2 hr fun e s' hs' a' w' hr' => ?_
            have hm := hsub _ hs'
            cases e with
            | normal =>
              exact ⟨_, s', more, mem_dedup (mem_normals hm), hr', hmore, fun e s' hs' => hQ e s' (List.mem_append_right _ hs')⟩
            | _ => exact hQ _ s' (List.mem_append_left _ (mem_others (by simp) hm)) a' w' hr'
  | exit id =>
    intro s outs a w Q h hr hQ
    simp only [codeR, Option.some.injEq] at h
    subst h
    exact wp_exit (hQ _ _ (by simp) a w hr)
  | ret =>
    intro s outs a w Q h hr hQ
    simp only [codeR, Option.some.injEq] at h
    subst h
    exact wp_ret (hQ _ _ (by simp) a w hr)
  | _ =>
    intros
    rename_i h _ _
    simp [codeR] at h
end
end Go.Rel
