import Derived.Test.Qxb6500371aMd5
import Derived.Deep.AppendLies
import Derived.OwnWalk
set_option linter.unusedVariables false
set_option linter.unusedSimpArgs false
namespace Go.Proofs.Qxb6500371a.W
open Go.RowKit Go.Maps

/-- HeldGet and HeldPut, by the ghost. -/
def hgetG (g : GS) (k : Int) : Int × Int × GS := if g.held < 0 then (0, 8, g) else gotG g g.held.toNat k
def hputG (g : GS) (k v : Int) : Int × GS := if g.held < 0 then (8, g) else laidG g g.held.toNat k v

set_option maxHeartbeats 1000000 in
set_option maxRecDepth 4000 in
theorem mhget_calls {w : World} {pd b cap : Nat} {base : Int} {g : GS} {lp : Option Addr} (h : MdAt w pd b base g lp cap) (hm : GM b base g) (hh : heldIn g) (k : Int) :
    Calls Try.prog 82 #[pt pd, .int .i64 k] w fun x w' => x = .returned (.tuple #[.int .i64 (hgetG g k).1, .int .i64 (hgetG g k).2.1]) ∧ MStp pd b base lp cap (hgetG g k).2.2 w w' := by
  have H : Hid (MdAt w pd b base g lp cap) := h
  have HM : Hid (GM b base g) := hm
  have c14 : w.cell? ⟨pd, 14, none⟩ = some (.int .i64 g.held) := cell_of h.row rfl
  have hn4 := hm.n
  rcases hh with e | ⟨q, hq, e⟩
  · have E : Hid (hgetG g k = (0, 8, g)) := by show hgetG g k = _; rw [hgetG, if_pos (by omega)]
    rw [e] at c14
    clear h hm e
    go_enter Try.func82, Try.ntmps82
    go_wp2
    go_ret2
    rw [E.out]
    exact ⟨rfl, H.out, Chg.refl _ _⟩
  · have d0 : decide (g.held < 0) = false := by simp; omega
    have E0 : hgetG g k = gotG g q k := by rw [hgetG, if_neg (by omega), show g.held.toNat = q by omega]
    by_cases h0 : q = 0
    · have E : Hid (hgetG g k = ((rowR g.m k).2.1, (rowR g.m k).2.2, g)) := by
        show hgetG g k = _
        rw [E0, h0, gotG, if_neg (by simp [anyS])]
        by_cases hz : (rowR g.m k).2.2 = 0
        · rw [if_pos hz, if_neg (by simp [anyS]), hz]
        · rw [if_neg hz, rowR_err hz]
      have c14' : w.cell? ⟨pd, 14, none⟩ = some (.int .i64 0) := by rw [c14, e, h0]; rfl
      clear h hm e c14 d0 E0
      go_enter Try.func82, Try.ntmps82
      go_wp2_with fail
      refine (table_calls H.out k).mono ?_
      rintro x w2 ⟨rfl, hw2⟩
      obtain rfl : w = w2 := hw2.symm
      clear hw2
      go_wp2
      go_ret2
      rw [E.out]
      exact ⟨rfl, H.out, Chg.refl _ _⟩
    · have E : Hid (hgetG g k = gotG g q k) := E0
      have d1 : (g.held == 0) = false := by simp; omega
      have hq0 : 0 < q := by omega
      clear h hm e E0
      go_enter Try.func82, Try.ntmps82
      go_wp2_with fail
      refine (mget_calls H.out HM.out k q hq (Or.inl hq0)).mono ?_
      rintro x w2 ⟨rfl, hg2, hc2⟩
      have HS : Hid (MStp pd b base lp cap (gotG g q k).2.2 w w2) := ⟨hg2, hc2.mono (by simp)⟩
      clear hg2 hc2
      go_wp2
      go_ret2
      rw [E.out]
      exact ⟨rfl, HS.out⟩

set_option maxHeartbeats 1000000 in
set_option maxRecDepth 4000 in
theorem mhput_calls {w : World} {pd b cap : Nat} {base : Int} {g : GS} {lp : Option Addr} (h : MdAt w pd b base g lp cap) (hm : GM b base g) (hh : heldIn g) (k v : Int) :
    Calls Try.prog 83 #[pt pd, .int .i64 k, .int .i64 v] w fun x w' => x = .returned (.int .i64 (hputG g k v).1) ∧ MStp pd b base lp cap (hputG g k v).2 w w' := by
  have H : Hid (MdAt w pd b base g lp cap) := h
  have HM : Hid (GM b base g) := hm
  have c14 : w.cell? ⟨pd, 14, none⟩ = some (.int .i64 g.held) := cell_of h.row rfl
  have hn4 := hm.n
  rcases hh with e | ⟨q, hq, e⟩
  · have E : Hid (hputG g k v = (8, g)) := by show hputG g k v = _; rw [hputG, if_pos (by omega)]
    rw [e] at c14
    clear h hm e
    go_enter Try.func83, Try.ntmps83
    go_wp2
    go_ret
    rw [E.out]
    exact ⟨rfl, H.out, Chg.refl _ _⟩
  · have E : Hid (hputG g k v = laidG g q k v) := by show hputG g k v = _; rw [hputG, if_neg (by omega), show g.held.toNat = q by omega]
    rw [e] at c14
    have d0 : decide (((q : Nat) : Int) < 0) = false := by simp
    clear h hm e
    go_enter Try.func83, Try.ntmps83
    go_wp2_with fail
    refine (mput_calls H.out HM.out k v q hq).mono ?_
    rintro x w2 ⟨rfl, hg2, hc2⟩
    have HS : Hid (MStp pd b base lp cap (laidG g q k v).2 w w2) := ⟨hg2, hc2⟩
    clear hg2 hc2
    go_wp2
    go_ret
    rw [E.out]
    exact ⟨rfl, HS.out⟩

theorem info100 : (Try.prog.info? 100).map (fun i => (i.zero, i.size, i.bytes)) = some (some (.agg #[.int .i64 0, .int .i64 0, .int .i64 0, .int .i64 0]), 4, 32) := by kernel_rfl

theorem logs_own {w : World} {lp : Option Addr} {len cap b : Nat} {g : GS} (h : LogsAt w lp len cap b g) : ∃ xs : List Value, w.ownsRow 0 100 4 (.slice lp len cap) len xs ∧
    ∀ i, i < len → xs[i * 4]? = some (.int .i64 (g.puts (b + i))) ∧ xs[i * 4 + 1]? = some (.int .i64 (g.dels (b + i))) ∧ xs[i * 4 + 2]? = some (.int .i64 (g.ev (b + i))) ∧ xs[i * 4 + 3]? = some (.int .i64 (g.evk (b + i))) := by
  rcases h with ⟨rfl, rfl, rfl⟩ | ⟨pl, cur, rfl, h1, h2, h3, h4⟩
  · exact ⟨[], ⟨by simp, Or.inl ⟨rfl, rfl⟩⟩, fun i hi => by omega⟩
  · refine ⟨cur.toList.take (len * 4), ⟨by simp [h3]; omega, Or.inr ⟨pl, cap, cur, rfl, by omega, h1, h2.1, h2.2, h3, rfl⟩⟩, fun i hi => ?_⟩
    obtain ⟨g0, g1, g2, g3⟩ := h4 i hi
    have t : ∀ k, k < len * 4 → (cur.toList.take (len * 4))[k]? = cur[k]? := by
      intro k hk
      rw [List.getElem?_take_of_lt hk, Array.getElem?_toList]
    exact ⟨by rw [t _ (by omega)]; exact g0, by rw [t _ (by omega)]; exact g1, by rw [t _ (by omega)]; exact g2, by rw [t _ (by omega)]; exact g3⟩

theorem own_logs {w : World} {pl len cap b : Nat} {g : GS} {xs : List Value} (h : w.ownsRow 0 100 4 (.slice (some ⟨pl, 0, none⟩) len cap) len xs)
    (hx : ∀ i, i < len → xs[i * 4]? = some (.int .i64 (g.puts (b + i))) ∧ xs[i * 4 + 1]? = some (.int .i64 (g.dels (b + i))) ∧ xs[i * 4 + 2]? = some (.int .i64 (g.ev (b + i))) ∧ xs[i * 4 + 3]? = some (.int .i64 (g.evk (b + i)))) : LogsAt w (some ⟨pl, 0, none⟩) len cap b g := by
  rcases h.2 with ⟨e, _⟩ | ⟨g', cap', cur, e, _, h1, h2, h3, h4, h5⟩
  · cases e
  · cases e
    refine Or.inr ⟨pl, cur, rfl, h1, ⟨h2, h3⟩, h4, fun i hi => ?_⟩
    have t : ∀ k, k < len * 4 → xs[k]? = cur[k]? := by
      intro k hk
      rw [← h5, List.getElem?_take_of_lt hk, Array.getElem?_toList]
    obtain ⟨g0, g1, g2, g3⟩ := hx i hi
    exact ⟨by rw [← t _ (by omega)]; exact g0, by rw [← t _ (by omega)]; exact g1, by rw [← t _ (by omega)]; exact g2, by rw [← t _ (by omega)]; exact g3⟩

theorem Chg.grown {w w' : World} {o : Option Nat} (h : w.grownBy w' o) : Chg (match o with | none => [] | some b => [b]) w w' :=
  ⟨h.os, h.tape, h.output, h.size, fun k hk hn => h.block k hk (by intro e; subst e; simp at hn)⟩

def logZ : List Value := [.int .i64 0, .int .i64 0, .int .i64 0, .int .i64 0]

/-- append(m.Logs, Log{}) -/
theorem append_log {w : World} {lp : Option Addr} {len cap b B : Nat} {g : GS} (h : LogsAt w lp len cap b g) (hl : len < 4) (hB : w.heap[B]? = some (.cells #[.int .i64 0, .int .i64 0, .int .i64 0, .int .i64 0] 100 (0, 0))) (g' : GS)
    (hg : ∀ i, i < len → g'.puts (b + i) = g.puts (b + i) ∧ g'.dels (b + i) = g.dels (b + i) ∧ g'.ev (b + i) = g.ev (b + i) ∧ g'.evk (b + i) = g.evk (b + i)) (hz : g'.puts (b + len) = 0 ∧ g'.dels (b + len) = 0 ∧ g'.ev (b + len) = 0 ∧ g'.evk (b + len) = 0) :
    ∃ pl cap' w', (Builtin.append_ #[82, 82] 82 #[.slice lp len cap, .slice (some ⟨B, 0, none⟩) 1 1]).run Try.prog w = .ok (.slice (some ⟨pl, 0, none⟩) (len + 1) cap') w' ∧ LogsAt w' (some ⟨pl, 0, none⟩) (len + 1) cap' b g' ∧ Chg (ownB lp) w w' ∧ (pl ∈ ownB lp ∨ w.heap.size ≤ pl) ∧ pl < w'.heap.size := by
  obtain ⟨xs, hown, hx⟩ := logs_own h
  obtain ⟨i, hi, hz0, hz1, hz2⟩ := info_parts info100
  have hml : 5 ≤ maxLen := by decide
  obtain ⟨pl, cap', w', hr, h2, h3, h4, h5⟩ := run_append_lies (P := Try.prog) w 82 82 0 100 i _ 4 32 Try.underlying82 hi hz0 hz1 hz2 rfl (by omega) (.slice lp len cap) len xs hown ⟨B, 0, none⟩ 1 1 logZ rfl
    (by
      intro j u hu
      have : (⟨B, 0, none⟩ : Addr).add j = ⟨B, j, none⟩ := by unfold Addr.add; split <;> simp_all
      rw [this]
      refine cell_of hB ?_
      rw [← hu]
      match j with
      | 0 => rfl
      | 1 => rfl
      | 2 => rfl
      | 3 => rfl
      | j + 4 => rfl)
    (by intro u hu; simp [logZ] at hu; subst hu; rfl) (by omega) (by omega) (by omega) (by omega) _ rfl
  have hxl : xs.length = len * 4 := hown.1
  have hcase : (lp = none ∧ len = 0) ∨ ∃ p0, lp = some ⟨p0, 0, none⟩ := by
    rcases h with ⟨a1, a2, _⟩ | ⟨p0, _, a1, _⟩
    · exact Or.inl ⟨a2, a1⟩
    · exact Or.inr ⟨p0, a1⟩
  have hchg : Chg (ownB lp) w w' ∧ (pl ∈ ownB lp ∨ w.heap.size ≤ pl) := by
    have hc := Chg.grown h3
    rcases hcase with ⟨rfl, _⟩ | ⟨p0, rfl⟩
    · refine ⟨hc.mono (by simp [Value.ownBlock]), Or.inr ?_⟩
      rcases h4 with h4 | h4
      · simp [Value.ownBlock] at h4
      · omega
    · refine ⟨hc.mono (by simp [Value.ownBlock, ownB]), ?_⟩
      rcases h4 with h4 | h4
      · simp [Value.ownBlock] at h4
        exact Or.inl (by simp [ownB, h4])
      · exact Or.inr (by omega)
  refine ⟨pl, cap', w', hr, own_logs h2 ?_, hchg.1, hchg.2, h5⟩
  intro j hj
  by_cases hjl : j < len
  · obtain ⟨g0, g1, g2, g3⟩ := hx j hjl
    obtain ⟨e0, e1, e2, e3⟩ := hg j hjl
    rw [e0, e1, e2, e3]
    exact ⟨by rw [List.getElem?_append_left (by omega)]; exact g0, by rw [List.getElem?_append_left (by omega)]; exact g1, by rw [List.getElem?_append_left (by omega)]; exact g2, by rw [List.getElem?_append_left (by omega)]; exact g3⟩
  · have e : j = len := by omega
    subst e
    obtain ⟨z0, z1, z2, z3⟩ := hz
    rw [z0, z1, z2, z3]
    refine ⟨?_, ?_, ?_, ?_⟩
    · rw [List.getElem?_append_right (by omega), hxl]; simp [logZ]
    · rw [List.getElem?_append_right (by omega), hxl, show j * 4 + 1 - j * 4 = 1 by omega]; rfl
    · rw [List.getElem?_append_right (by omega), hxl, show j * 4 + 2 - j * 4 = 2 by omega]; rfl
    · rw [List.getElem?_append_right (by omega), hxl, show j * 4 + 3 - j * 4 = 3 by omega]; rfl

theorem wpList_append_run {P : Program} {w : World} {ops : Array Oper} {rest : List Oper} {o : Oper} {a : Act} {Q : Exit → Act → World → Prop} (hgd : o.guard = none) (s x : Operand) (t : TypeId)
    (ho : o.op = .call { callee := .builtin .append, args := #[s, x], argTypes := #[t, t] }) (vs vx v' : Value) (w' : World) (hs : a.eval s = vs) (hx : a.eval x = vx)
    (hr : (Builtin.append_ #[t, t] o.type #[vs, vx]).run P w = .ok v' w') (h : wpList P ops Q rest (a.put o.dst v') w') : wpList P ops Q (o :: rest) a w := by
  refine wpList_plain hgd fun _ hK => ?_
  unfold Oper.wp execOp
  simp only [ho, resolve, invoke, builtin, Sem.run_bind, Sem.run_pure, Result.andThen_ok, List.map_toArray, List.map_cons, List.map_nil, hs, hx, hr]
  exact hK _ _ h

set_option maxHeartbeats 2000000 in
set_option maxRecDepth 4000 in
theorem mwrap_log {w : World} {pd b cap : Nat} {base : Int} {g : GS} {lp : Option Addr} (h : MdAt w pd b base g lp cap) (hm : GM b base g) (hlt : g.n < 4) (hfree : g.puts g.n = 0 ∧ g.dels g.n = 0 ∧ g.ev g.n = 0 ∧ g.evk g.n = 0) (hb : b ≤ g.n) :
    Calls Try.prog 73 #[pt pd, .int .i64 1] w fun x w' => x = .returned (.int .i64 0) ∧ ∃ lp' cap', MdAt w' pd b base { g with kind := upd g.kind g.n 1, n := g.n + 1 } lp' cap' ∧ Chg (pd :: ownB lp) w w' ∧ ∀ x ∈ ownB lp', x ∈ ownB lp ∨ w.heap.size ≤ x := by
  have H : Hid (MdAt w pd b base g lp cap) := h
  have HM : Hid (GM b base g) := hm
  have hpd : pd < w.heap.size := (Array.getElem?_eq_some_iff.1 h.row).1
  have c13 : w.cell? ⟨pd, 13, none⟩ = some (.slice lp (g.n - b : Nat) cap) := cell_of h.row rfl
  have d1 : decide (4 ≤ g.n) = false := by simp; omega
  have d2 : decide ((4 : Int) ≤ (g.n : Int)) = false := by simp; omega
  have e1 : g.n + 1 - b = g.n - b + 1 := by omega
  have e2 : b + (g.n - b) = g.n := by omega
  obtain ⟨pl, cap', w1, hrun, hlg, hch, hpl, hplt⟩ := append_log (w := w.alloc (.cells #[.int .i64 0, .int .i64 0, .int .i64 0, .int .i64 0] 100)) (B := w.heap.size)
    (h.logs.chg (bs := []) ((Chg.refl _ _).alloc _) (by simp)) (by omega) (heap_alloc_new _ _) { g with kind := upd g.kind g.n 1, n := g.n + 1 } (fun i _ => ⟨rfl, rfl, rfl, rfl⟩) (by rw [e2]; exact hfree)
  have hrow1 : w1.heap[pd]? = some (.cells (mdCells base g (.slice lp (g.n - b) cap)) 84 (0, 0)) := hch.keep (Chg.keep (bs := []) ((Chg.refl _ _).alloc _) h.row (by simp)) h.apart
  have c13' : w1.cell? ⟨pd, 13, none⟩ = some (.slice lp (g.n - b : Nat) cap) := cell_of hrow1 rfl
  have ff : ∀ i, w1.frozen? ⟨pd, i, none⟩ = false := fun _ => frozen_of hrow1
  have hpne : pd ≠ pl := by
    rcases hpl with e | e
    · intro z; exact h.apart (by rw [z]; exact e)
    · simp at e; omega
  have FIN : Hid (∃ lp' cq, MdAt (w1.setCell ⟨pd, 13, none⟩ (.slice (some ⟨pl, 0, none⟩) (g.n - b + 1) cap')) pd b base { g with kind := upd g.kind g.n 1, n := g.n + 1 } lp' cq ∧ Chg (pd :: ownB lp) w (w1.setCell ⟨pd, 13, none⟩ (.slice (some ⟨pl, 0, none⟩) (g.n - b + 1) cap')) ∧ ∀ x ∈ ownB lp', x ∈ ownB lp ∨ w.heap.size ≤ x) := by
    have hc1 : Chg (pd :: ownB lp) w w1 := ((Chg.refl _ w).alloc _).trans (hch.mono (by intro x hx; simp [hx]))
    have hcs : Chg [pd] w1 (w1.setCell ⟨pd, 13, none⟩ (.slice (some ⟨pl, 0, none⟩) (g.n - b + 1) cap')) := Chg.px (Chg.refl _ _)
    refine ⟨some ⟨pl, 0, none⟩, cap', ⟨?_, ?_, ?_, ?_⟩, hc1.setCell (Or.inl (by simp)) _, ?_⟩
    · rw [heap_setCell_same w1 pd 13 _ _ _ hrow1]
      show _ = some (Obj.cells (mdCells base { g with kind := upd g.kind g.n 1, n := g.n + 1 } (.slice (some ⟨pl, 0, none⟩) (g.n + 1 - b) cap')) 84 (0, 0))
      rw [e1]
      simp [mdCells]
    · show LogsAt _ _ (g.n + 1 - b) _ _ _
      rw [e1]
      exact hlg.chg hcs (by intro x hx hy; simp [ownB] at hx hy; omega)
    · simp [ownB]; exact hpne
    · intro x hx
      simp [ownB] at hx
      subst hx
      exact Nat.lt_of_lt_of_le hplt hcs.size
    · intro x hx
      simp [ownB] at hx
      subst hx
      rcases hpl with e | e
      · exact Or.inl e
      · exact Or.inr (by simp at e; omega)
  clear h hm hlg hch hpl hplt hrow1 hpne e1 e2 hfree
  go_enter Try.func73, Try.ntmps73
  go_wp2_with fail
  refine (layers_calls H.out HM.out).mono ?_
  rintro x w2 ⟨rfl, hw2⟩
  obtain rfl : w = w2 := hw2.symm
  clear hw2
  go_wp2_with (at_builtin; refine wpList_append_run rfl _ _ _ rfl _ _ _ _ rfl rfl hrun ?_)
  go_wp2
  go_ret
  exact ⟨rfl, FIN.out⟩

theorem ms_base (base : Int) (g : GS) (lv : Value) (v : Int) : (mdCells base g lv).setIfInBounds 8 (.int .i64 v) = mdCells v g lv := by simp [mdCells]

/-- Wrap, by the ghost: error, state. -/
def wrapG (g : GS) (k : Int) : Int × GS :=
  if k ≠ 1 ∧ k ≠ 2 ∧ k ≠ 3 then (4, g) else if 4 ≤ g.n then (5, g) else if k ≠ 1 ∧ 0 < g.n then (6, g) else (0, { g with kind := upd g.kind g.n k, n := g.n + 1 })

/-- What a step of the model leaves, its slice perhaps laid anew. -/
structure NStp (pd : Nat) (lp : Option Addr) (g' : GS) (w w' : World) : Prop where
  ex : ∃ b' base' lp' cap', MdAt w' pd b' base' g' lp' cap' ∧ GM b' base' g' ∧ ∀ x ∈ ownB lp', x ∈ ownB lp ∨ w.heap.size ≤ x
  chg : Chg (pd :: ownB lp) w w'

theorem GM.log {b : Nat} {base : Int} {g : GS} (h : GM b base g) (hlt : g.n < 4) (hb : b ≤ g.n) : GM b base { g with kind := upd g.kind g.n 1, n := g.n + 1 } := by
  refine ⟨by show g.n + 1 ≤ 4; omega, ?_, ?_⟩
  · rcases h.bb with ⟨h1, h2, h3⟩ | ⟨h1, h2, h3, h4⟩
    · exact Or.inl ⟨h1, h2, h3⟩
    · refine Or.inr ⟨h1, by show 0 < g.n + 1; omega, ?_, h4⟩
      show upd g.kind g.n 1 0 = base
      have : ¬ (0 = g.n) := by omega
      simp [upd, this, h3]
  · intro i hi hn
    have hn' : i < g.n + 1 := hn
    show upd g.kind g.n 1 i = 1
    by_cases e : i = g.n
    · simp [upd, e]
    · simp only [upd, if_neg e]
      exact h.logs i hi (by omega)

set_option maxHeartbeats 2000000 in
set_option maxRecDepth 4000 in
theorem mwrap_calls {w : World} {pd b cap : Nat} {base : Int} {g : GS} {lp : Option Addr} (h : MdAt w pd b base g lp cap) (hm : GM b base g) (hfree : g.puts g.n = 0 ∧ g.dels g.n = 0 ∧ g.ev g.n = 0 ∧ g.evk g.n = 0) (k : Int) :
    Calls Try.prog 73 #[pt pd, .int .i64 k] w fun x w' => x = .returned (.int .i64 (wrapG g k).1) ∧ NStp pd lp (wrapG g k).2 w w' := by
  have hb : b ≤ g.n := by rcases hm.bb with ⟨h1, _⟩ | ⟨h1, h2, _⟩ <;> omega
  have H : Hid (MdAt w pd b base g lp cap) := h
  have HM : Hid (GM b base g) := hm
  have SAME : Hid (NStp pd lp g w w) := ⟨⟨b, base, lp, cap, h, hm, fun x hx => Or.inl hx⟩, Chg.refl _ _⟩
  have c8 : w.cell? ⟨pd, 8, none⟩ = some (.int .i64 base) := cell_of h.row rfl
  have ff : ∀ i, w.frozen? ⟨pd, i, none⟩ = false := fun _ => frozen_of h.row
  by_cases ha : k ≠ 1 ∧ k ≠ 2 ∧ k ≠ 3
  · have E : Hid (wrapG g k = (4, g)) := by show wrapG g k = _; rw [wrapG, if_pos ha]
    obtain ⟨h1, h2, h3⟩ := ha
    have k1 : (k != 1) = true := by simpa using h1
    have k2 : (k != 2) = true := by simpa using h2
    have k3 : (k != 3) = true := by simpa using h3
    clear h hm h1 h2 h3 hfree
    go_enter Try.func73, Try.ntmps73
    go_wp2
    go_ret
    rw [E.out]
    exact ⟨rfl, SAME.out⟩
  · have ha' : k = 1 ∨ k = 2 ∨ k = 3 := by omega
    by_cases h4 : 4 ≤ g.n
    · have E : Hid (wrapG g k = (5, g)) := by show wrapG g k = _; rw [wrapG, if_neg ha, if_pos h4]
      have d1 : decide (4 ≤ g.n) = true := by simpa using h4
      have d2 : decide ((4 : Int) ≤ (g.n : Int)) = true := by simp; omega
      clear h hm hfree ha
      rcases ha' with rfl | rfl | rfl
      all_goals
        go_enter Try.func73, Try.ntmps73
        go_wp2_with fail
        refine (layers_calls H.out HM.out).mono ?_
        rintro x w2 ⟨rfl, hw2⟩
        obtain rfl : w = w2 := hw2.symm
        clear hw2
        go_wp2
        go_ret
        rw [E.out]
        exact ⟨rfl, SAME.out⟩
    · have d1 : decide (4 ≤ g.n) = false := by simpa using h4
      have d2 : decide ((4 : Int) ≤ (g.n : Int)) = false := by simp; omega
      by_cases h1 : k = 1
      · subst h1
        have E : wrapG g 1 = (0, { g with kind := upd g.kind g.n 1, n := g.n + 1 }) := by rw [wrapG, if_neg ha, if_neg h4, if_neg (by simp)]
        refine (mwrap_log h hm (by omega) hfree hb).mono ?_
        rintro x w2 ⟨rfl, lp', cap', g1, g2, g3⟩
        rw [E]
        exact ⟨rfl, ⟨b, base, lp', cap', g1, hm.log (by omega) hb, g3⟩, g2⟩
      · by_cases h5 : 0 < g.n
        · have E : Hid (wrapG g k = (6, g)) := by show wrapG g k = _; rw [wrapG, if_neg ha, if_neg h4, if_pos ⟨h1, h5⟩]
          have hk : k = 2 ∨ k = 3 := by omega
          have d3 : ((g.n : Int) != 0) = true := by simp; omega
          clear h hm hfree ha ha' h1
          rcases hk with rfl | rfl
          all_goals
            go_enter Try.func73, Try.ntmps73
            go_wp2_with fail
            refine (layers_calls H.out HM.out).mono ?_
            rintro x w2 ⟨rfl, hw2⟩
            obtain rfl : w = w2 := hw2.symm
            clear hw2
            go_wp2
            all_goals (go_ret; rw [E.out]; exact ⟨rfl, SAME.out⟩)
        · have h0 : g.n = 0 := by omega
          have E : Hid (wrapG g k = (0, { g with kind := upd g.kind g.n k, n := g.n + 1 })) := by show wrapG g k = _; rw [wrapG, if_neg ha, if_neg h4, if_neg (fun z => h5 z.2)]
          have hk : k = 2 ∨ k = 3 := by omega
          have hb0 : b = 0 := by omega
          subst hb0
          have hlp : lp = none ∧ cap = 0 ∨ True := Or.inr trivial
          have FIN : Hid (NStp pd lp { g with kind := upd g.kind g.n k, n := g.n + 1 } w (w.setCell ⟨pd, 8, none⟩ (.int .i64 k))) := by
            have hc : Chg [pd] w (w.setCell ⟨pd, 8, none⟩ (.int .i64 k)) := Chg.px (Chg.refl _ _)
            have hlen : g.n - 0 = 0 := by omega
            refine ⟨⟨1, k, lp, cap, ⟨?_, ?_, h.apart, fun x hx => Nat.lt_of_lt_of_le (h.lt x hx) hc.size⟩, ⟨by show g.n + 1 ≤ 4; omega, Or.inr ⟨rfl, by show 0 < g.n + 1; omega, by simp [upd, h0], hk⟩, ?_⟩, fun x hx => Or.inl hx⟩, hc.mono (by simp)⟩
            · rw [heap_setCell_same w pd 8 _ _ _ h.row, ms_base]
              show _ = some (Obj.cells (mdCells k _ (.slice lp (g.n + 1 - 1) cap)) 84 (0, 0))
              rw [show g.n + 1 - 1 = g.n - 0 by omega]
              rfl
            · show LogsAt _ _ (g.n + 1 - 1) _ _ _
              have hl := h.logs.chg hc (fun x hx hp => by simp at hp; subst hp; exact h.apart hx)
              rcases hl with ⟨_, l1, l2⟩ | ⟨pl, cur, l1, l2, l3, l4, l5⟩
              · exact Or.inl ⟨by omega, l1, l2⟩
              · exact Or.inr ⟨pl, cur, l1, l2, ⟨by omega, l3.2⟩, l4, fun i hi => by omega⟩
            · intro i hi hn
              have hn' : i < g.n + 1 := hn
              omega
          have HZ0 : Hid (g.n = 0) := h0
          have e0 : (g.n : Int) = 0 := by omega
          have HE0 : Hid ((g.n : Int) = 0) := e0
          clear h hm hfree ha ha' h1 h0 h5 h4 d1 d2 e0
          rcases hk with rfl | rfl
          all_goals
            go_enter Try.func73, Try.ntmps73
            go_wp2_with fail
            refine (layers_calls H.out HM.out).mono ?_
            rintro x w2 ⟨rfl, hw2⟩
            obtain rfl : w = w2 := hw2.symm
            clear hw2
            rw [HE0.out]
            go_wp2
            go_ret
            rw [E.out]
            exact ⟨rfl, FIN.out⟩
end Go.Proofs.Qxb6500371a.W
