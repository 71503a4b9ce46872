import Derived.Test.Qxb6500374aEvH
import Derived.RowKit3
import Derived.Below
set_option linter.unusedSimpArgs false
set_option linter.unusedVariables false
namespace Go.Rel
open Go.RowKit
section
variable {P : Program} {E : Env} {w0 : World}

theorem res_run {tm : List Value} {h : List Obj} {d : Nat} (g : ResultVar → Sem Value) (h1 : ∀ t w, (g (.tmp t)).run P w = .ok (sh E (tm.getD t undef)) w)
    (h2 : ∀ a t p v, tm.getD a undef = .pointer (some p) → loadR P h t p = some v → (g (.cell a t)).run P (mk E w0 h d) = .ok (sh E v) (mk E w0 h d)) :
    ∀ {rs : List ResultVar} {vs : List Value}, resR P tm h rs = some vs → (rs.mapM g).run P (mk E w0 h d) = .ok (vs.map (sh E)) (mk E w0 h d) := by
  intro rs
  induction rs with
  | nil => intro vs hr; simp only [resR, Option.some.injEq] at hr; subst hr; simp
  | cons r rs ih =>
    intro vs hr
    cases r with
    | tmp t =>
      simp only [resR] at hr
      split at hr
      · rename_i l hl
        cases hr
        rw [List.mapM_cons]
        simp only [Sem.run_bind, h1, Result.andThen_ok, ih hl, Sem.run_pure, List.map_cons]
      · cases hr
    | cell a t =>
      simp only [resR] at hr
      split at hr
      · rename_i p l hp hl
        split at hr
        · rename_i v hv
          cases hr
          rw [List.mapM_cons]
          simp only [Sem.run_bind, h2 a t p v hp hv, Result.andThen_ok, ih hl, Sem.run_pure, List.map_cons]
        · cases hr
      · cases hr

theorem pack_sh (vs : List Value) : (if h : ((vs.map (sh E)).toArray).size = 1 then ((vs.map (sh E)).toArray)[0] else .tuple (vs.map (sh E)).toArray) = sh E (packR vs) := by
  match vs with
  | [] => simp [packR, sh_tuple]
  | [v] => simp [packR]
  | a :: b :: l => simp [packR, sh_tuple]

theorem results_run (hN : E.N = w0.heap.size) {fn : Func} {tm : List Value} {h : List Obj} {d : Nat} {vs : List Value} (hr : resR P tm h fn.results.toList = some vs) :
    (results fn ((tm.map (sh E)).toArray)).run P (mk E w0 h d) = .ok (sh E (packR vs)) (mk E w0 h d) := by
  unfold results
  rw [show fn.results = fn.results.toList.toArray from rfl, List.mapM_toArray]
  simp only [Sem.run_bind, Sem.run_map]
  have hg : ∀ t, (tm.map (sh E)).toArray.getD t undef = sh E (tm.getD t undef) := fun t => by rw [← getD_sh]; simp
  rw [res_run (E := E) (w0 := w0) (d := d) (h := h) (tm := tm) _ (fun t w => by simp only [hg, Sem.run_pure])
    (fun a t p v hp hv => by simp only [hg, hp, sh_ptr, asAddr, Sem.run_bind, Sem.run_pure, Result.andThen_ok, load_run hN hv]) hr]
  simp only [Result.andThen_ok, Sem.run_pure]
  rw [pack_sh]

theorem mem_endR {fn : Func} : ∀ {l : Ex} {outs : Outs}, endR P fn l = some outs → ∀ e s, (e, s) ∈ l → (e = .normal ∨ e = .ret) ∧ ∃ vs, resR P s.tm s.hp fn.results.toList = some vs ∧ (packR vs, s.hp, s.u) ∈ outs := by
  intro l
  induction l with
  | nil => intro outs _ e s hs; cases hs
  | cons t l ih =>
    intro outs h e s hs
    obtain ⟨e1, s1⟩ := t
    simp only [endR] at h
    split at h
    · rename_i vs l' he hv hl
      cases h
      rcases List.mem_cons.1 hs with heq | hs
      · cases heq
        refine ⟨?_, vs, hv, List.mem_cons_self⟩
        cases e <;> first | exact .inl rfl | exact .inr rfl | (simp at he)
      · obtain ⟨h1, vs', h2, h3⟩ := ih hl e s hs
        exact ⟨h1, vs', h2, List.mem_cons_of_mem _ h3⟩
    · cases h

theorem fun_ok {A : Option Addr × Nat × Nat} (hNG : ∀ (f : Nat) (fn : Func), P.funcs[f]? = some fn → fn.name ≠ "runtime.NumGoroutine") (hmix : P.follows .mixedOrders = true) (fuel : Nat) :
    ∀ n, CallOK P A w0 (funR P fuel n) := by
  intro n
  induction n with
  | zero => intro E f args h u outs d hE he; simp [funR] at he
  | succ n ih =>
    intro E f args h u outs d hE he
    simp only [funR] at he
    split at he
    · rename_i fn hfn
      have hf : P.funcs[f]? = some fn := by simpa using hfn
      split at he
      · rename_i c hb
        split at he
        · rename_i l hl
          split at he
          · rename_i l2 hl2
            cases he
            refine ⟨⟨fn, hf, by simp [hb]⟩, calls_of_wp hf hb ?_⟩
            refine code_wp (u0 := u) (E0 := E) hNG hmix ih fuel c hl (a := { tmps := (args.map (sh E)).toArray ++ Array.replicate (fn.ntmps - ((args.map (sh E)).toArray).size) undef, defers := [] }) ⟨E, d, ?_, rfl, rfl, hE, Same.refl _ _⟩ ?_
            · rw [← Array.toList_inj]
              simp [sh_undef]
            · intro e s' hs' a' w' hr'
              obtain ⟨h1, vs, h2, h3⟩ := mem_endR hl2 e s' hs'
              obtain ⟨E', d', ht, hd, hw, hE', hsm⟩ := hr'
              have hres : (results fn a'.tmps).run P w' = .ok (sh E' (packR vs)) w' := by
                rw [ht, hw]; exact results_run hE'.hN h2
              rcases h1 with rfl | rfl
              · exact ⟨hd, _, hres, _, _, _, d', E', mem_dedupO h3, rfl, hw, hE', hsm⟩
              · exact ⟨hd, _, hres, _, _, _, d', E', mem_dedupO h3, rfl, hw, hE', hsm⟩
          · cases he
        · cases he
      · cases he
    · cases he

def frOk : Obj → Bool
  | .cells _ _ fr => decide (fr = (0, 0))
  | _ => true

theorem frozen_new {E : Env} (hfz : ObOK E) (i : Nat) {o : Obj} (ho : frOk o = true) (off : Nat) : (match some (shO E i o) with | some (.cells _ _ (lo, hi)) => decide (lo ≤ off) && decide (off < hi) | _ => false) = false := by
  have hob : (match some (E.ob i) with | some (.cells _ _ (lo, hi)) => decide (lo ≤ off) && decide (off < hi) | _ => false) = false := by
    cases h : E.ob i with
    | cells c t fr => have := hfz i c t fr h; subst this; simp
    | _ => rfl
  cases o with
  | cells c t fr =>
    simp only [frOk, decide_eq_true_eq] at ho
    subst ho
    simp [shO]
  | chan => simp [shO]
  | mapIter => exact hob
  | coro => exact hob
  | _ => simp [shO]

theorem grown_mk (w : World) {E : Env} (hN : E.N = w.heap.size) (hfz : ObOK E) (h : List Obj) (d : Nat) (hf : h.all frOk = true) : Grown w (mk E w h d) := by
  have hold : ∀ i, i < w.heap.size → (mk E w h d).heap[i]? = w.heap[i]? := by
    intro i hi
    simp only [mk]
    rw [Array.getElem?_append_left hi]
  refine ⟨⟨rfl, rfl, fun i hi => ?_⟩, fun a => ?_, by simp [mk]⟩
  · rw [hold i hi]
    split
    · rename_i e1 e2
      rw [e1] at e2; cases e2
      exact ⟨rfl, rfl, rfl, fun _ _ => rfl⟩
    · rename_i e1 e2
      rw [e1] at e2; cases e2
      exact .inr ⟨rfl, rfl⟩
    · rfl
  · unfold World.frozen?
    by_cases hi : a.block < w.heap.size
    · rw [hold _ hi]
    · have hn : w.heap[a.block]? = none := by simp; omega
      rw [hn]
      have hb : a.block = E.N + (a.block - w.heap.size) := by omega
      have hm := mk_get E (w0 := w) hN h d (a.block - w.heap.size)
      rw [← hb] at hm
      rw [hm]
      cases ho : h[a.block - w.heap.size]? with
      | none => rfl
      | some o => exact frozen_new hfz _ (List.all_eq_true.1 hf o (List.mem_of_getElem? ho)) a.off

def okR : Option Outs → Bool
  | some l => l.all fun x => (match x.1 with | .bool true => true | _ => false) && x.2.1.all frOk
  | none => false

theorem closed_true (hNG : ∀ (f : Nat) (fn : Func), P.funcs[f]? = some fn → fn.name ≠ "runtime.NumGoroutine") (hmix : P.follows .mixedOrders = true) {fuel n f : Nat} (h : okR (funR P fuel n f [.chan none] [] 0) = true)
    (ap : Option Addr) (al ac : Nat) (w : World) :
    Calls P f #[.slice ap al ac] w fun e w' => e = .returned (.bool true) ∧ Grown w w' := by
  cases hr : funR P fuel n f [.chan none] [] 0 with
  | none => rw [hr] at h; simp [okR] at h
  | some outs =>
    rw [hr] at h
    have hw : mk ⟨w.heap.size, fun _ => (0 % 2) * 2 ^ 63 + 0x7ff0000000000000 + 1 + (0 / 2) % (2 ^ 52 - 1), fun _ => 0, fun _ => .coro none, ap, al, ac⟩ w [] w.drawn = w := by simp [mk]
    have hE : EnvOK (ap, al, ac) w ⟨w.heap.size, fun _ => (0 % 2) * 2 ^ 63 + 0x7ff0000000000000 + 1 + (0 / 2) % (2 ^ 52 - 1), fun _ => 0, fun _ => .coro none, ap, al, ac⟩ [] :=
      ⟨rfl, rfl, fun i x => order_nan (read_nan 0) x, fun i m s seen st hg => (by simp at hg), fun i c t fr hg => (by cases hg)⟩
    have := (fun_ok (A := (ap, al, ac)) (w0 := w) hNG hmix fuel n _ f [.chan none] [] 0 outs w.drawn hE hr).2
    rw [hw] at this
    simp only [List.map_cons, List.map_nil, sh_chan0] at this
    refine Calls.mono this ?_
    rintro e w' ⟨v, h', u', d', E', hm, rfl, rfl, hE', _⟩
    have hv := List.all_eq_true.1 h _ hm
    simp only [Bool.and_eq_true] at hv
    refine ⟨?_, grown_mk w hE'.hN hE'.fz h' d' hv.2⟩
    have : v = .bool true := by
      have h1 := hv.1
      split at h1
      · rfl
      · cases h1
    rw [this, sh_bool]

theorem below_mk (w : World) (E : Env) (h : List Obj) (d : Nat) : Below w.heap.size w (mk E w h d) := by
  refine ⟨rfl, rfl, rfl, by simp [mk], fun i hi => ?_⟩
  simp only [mk]
  rw [Array.getElem?_append_left hi]

def yesV : Value → Bool
  | .bool true => true
  | _ => false

theorem yesV_eq {v : Value} (h : yesV v = true) : v = .bool true := by
  unfold yesV at h
  split at h
  · rfl
  · cases h

def trueR : Option Outs → Bool
  | some l => l.all fun x => yesV x.1
  | none => false

theorem closed_below (hNG : ∀ (f : Nat) (fn : Func), P.funcs[f]? = some fn → fn.name ≠ "runtime.NumGoroutine") (hmix : P.follows .mixedOrders = true) {fuel n f : Nat} (h : trueR (funR P fuel n f [.chan none] [] 0) = true)
    (ap : Option Addr) (al ac : Nat) (w : World) :
    Calls P f #[.slice ap al ac] w fun e w' => e = .returned (.bool true) ∧ Below w.heap.size w w' := by
  cases hr : funR P fuel n f [.chan none] [] 0 with
  | none => rw [hr] at h; simp [trueR] at h
  | some outs =>
    rw [hr] at h
    have hw : mk ⟨w.heap.size, fun _ => (0 % 2) * 2 ^ 63 + 0x7ff0000000000000 + 1 + (0 / 2) % (2 ^ 52 - 1), fun _ => 0, fun _ => .coro none, ap, al, ac⟩ w [] w.drawn = w := by simp [mk]
    have hE : EnvOK (ap, al, ac) w ⟨w.heap.size, fun _ => (0 % 2) * 2 ^ 63 + 0x7ff0000000000000 + 1 + (0 / 2) % (2 ^ 52 - 1), fun _ => 0, fun _ => .coro none, ap, al, ac⟩ [] :=
      ⟨rfl, rfl, fun i x => order_nan (read_nan 0) x, fun i m s seen st hg => (by simp at hg), fun i c t fr hg => (by cases hg)⟩
    have := (fun_ok (A := (ap, al, ac)) (w0 := w) hNG hmix fuel n _ f [.chan none] [] 0 outs w.drawn hE hr).2
    rw [hw] at this
    simp only [List.map_cons, List.map_nil, sh_chan0] at this
    refine Calls.mono this ?_
    rintro e w' ⟨v, h', u', d', E', hm, rfl, rfl, hE', _⟩
    have hv := List.all_eq_true.1 h _ hm
    have hv' : v = .bool true := yesV_eq hv
    exact ⟨by rw [hv', sh_bool], below_mk w E' h' d'⟩
end
end Go.Rel
